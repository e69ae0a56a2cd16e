/- The walk of target.Work. -/
import Derived.Test.YtcfpgcejahfdfaaTargetW
import Derived.Test.YtcfpgcejahfdfaaWideO
import Derived.Deep.RegionHeld3
import Derived.Deep.DeepCutAuto
namespace Go.Proofs.Ytcfpgcejahfdfaa
open Go.RowKit
set_option linter.unusedVariables false
set_option linter.unusedSimpArgs false

set_option maxHeartbeats 4000000 in
theorem Work_any (c : Nat) (hc : c < 2 ^ 32) (w : World) : Calls Try.prog 22 #[.int .u32 (c : Nat)] w fun e w' => e = .returned (wd (if expE c = 0 then workN (expT c) else 0)) ∧ Below w.heap.size w w' := by
  obtain ⟨t0, t1, t2, t3, HT⟩ := wd_opaque (expT c)
  obtain ⟨er, HE⟩ : ∃ e, Hid (expE c = e) := ⟨_, rfl⟩
  have cX : ∀ w : World, Calls Try.prog 20 #[.int .u32 (c : Nat)] w fun e w' => e = .returned (.tuple #[.agg #[.int .u64 (t0 : Nat), .int .u64 (t1 : Nat), .int .u64 (t2 : Nat), .int .u64 (t3 : Nat)], .int .i64 er]) ∧ Below w.heap.size w w' := fun w => by
    rw [wd_opaque_eq HT, ← HE.out]; exact Expand_any c hc w
  have hE : er = 0 ∨ er = 11 := by rw [← HE.out]; unfold expE; split <;> simp
  rcases hE with rfl | rfl
  case inr =>
    rw [HE.out, if_neg (by decide)]
    go_enter Try.func22, Try.ntmps22
    go_wp2_with ((with_reducible refine (cX _).mono ?_); rintro e W1 ⟨rfl, hb1⟩; have bk1 := (Blk.new w #[.int .u64 0, .int .u64 0, .int .u64 0, .int .u64 0] 44).below hb1 (by simp); have lt1 := bk1.lt; obtain ⟨⟨g0, g1, g2, g3⟩, ⟨f0, f1, f2, f3⟩⟩ := bk1.four)
    refine bodyPost_ret (v := .agg #[.int .u64 0, .int .u64 0, .int .u64 0, .int .u64 0]) (by simp [results, *, Try.results22, go_sem]) rfl ⟨rfl, ?_⟩
    have hb3 : Below w.heap.size w W1 := bl_step (bl_alloc (Below.refl _ _)) hb1
    repeat (first | with_reducible exact hb3 | with_reducible refine bl_set (by first | (simp; done) | (simp; omega)) ?_ | with_reducible refine bl_alloc ?_ | with_reducible refine bl_drew ?_)
  case inl =>
    rw [HE.out, if_pos rfl]
    have hg := exp_good c HE.out
    have Hg := Lib.hid hg
    clear hg
    obtain ⟨n0, n1, n2, n3, HN⟩ := wd_opaque (expT c + 1)
    obtain ⟨u0, u1, u2, u3, HU⟩ := wd_opaque (2 ^ 256 - 1 - expT c)
    obtain ⟨q0, q1, q2, q3, HQ⟩ := wd_opaque ((2 ^ 256 - 1 - expT c) / (expT c + 1))
    obtain ⟨r0, r1, r2, r3, HR⟩ := wd_opaque ((2 ^ 256 - 1 - expT c) % (expT c + 1))
    obtain ⟨v0, v1, v2, v3, HV⟩ := wd_opaque (workN (expT c))
    have cO : ∀ w : World, Calls Try.prog 26 #[.int .u64 1] w fun e w' => e = .returned (.agg #[.int .u64 1, .int .u64 0, .int .u64 0, .int .u64 0]) ∧ Below w.heap.size w w' := fun w => by rw [wd_one]; exact Of_any 1 (by decide) w
    have cA : ∀ w : World, Calls Try.prog 25 #[.agg #[.int .u64 (t0 : Nat), .int .u64 (t1 : Nat), .int .u64 (t2 : Nat), .int .u64 (t3 : Nat)], .agg #[.int .u64 1, .int .u64 0, .int .u64 0, .int .u64 0]] w fun e w' => e = .returned (.tuple #[.agg #[.int .u64 (n0 : Nat), .int .u64 (n1 : Nat), .int .u64 (n2 : Nat), .int .u64 (n3 : Nat)], .bool (decide (2 ^ 256 ≤ expT c + 1))]) ∧ Below w.heap.size w w' := fun w => by
      have h := Add_any (expT c) 1 (expT_lt c) (by decide) w
      rw [Nat.mod_eq_of_lt Hg.out.2] at h
      rw [wd_opaque_eq HT, wd_one, wd_opaque_eq HN]; exact h
    have cN : ∀ w : World, Calls Try.prog 28 #[.agg #[.int .u64 (t0 : Nat), .int .u64 (t1 : Nat), .int .u64 (t2 : Nat), .int .u64 (t3 : Nat)]] w fun e w' => e = .returned (.agg #[.int .u64 (u0 : Nat), .int .u64 (u1 : Nat), .int .u64 (u2 : Nat), .int .u64 (u3 : Nat)]) ∧ Below w.heap.size w w' := fun w => by
      rw [wd_opaque_eq HT, wd_opaque_eq HU]; exact Not_any (expT c) (expT_lt c) w
    have cQ : ∀ w : World, Calls Try.prog 27 #[.agg #[.int .u64 (u0 : Nat), .int .u64 (u1 : Nat), .int .u64 (u2 : Nat), .int .u64 (u3 : Nat)], .agg #[.int .u64 (n0 : Nat), .int .u64 (n1 : Nat), .int .u64 (n2 : Nat), .int .u64 (n3 : Nat)]] w fun e w' => e = .returned (.tuple #[.agg #[.int .u64 (q0 : Nat), .int .u64 (q1 : Nat), .int .u64 (q2 : Nat), .int .u64 (q3 : Nat)], .agg #[.int .u64 (r0 : Nat), .int .u64 (r1 : Nat), .int .u64 (r2 : Nat), .int .u64 (r3 : Nat)], .int .i64 0]) ∧ Below w.heap.size w w' := fun w => by
      rw [wd_opaque_eq HU, wd_opaque_eq HN, wd_opaque_eq HQ, wd_opaque_eq HR]; exact Quot_any _ _ (Nat.lt_of_le_of_lt (Nat.sub_le _ _) (by decide)) Hg.out.2 (Nat.succ_pos _) w
    have cV : ∀ w : World, Calls Try.prog 25 #[.agg #[.int .u64 (q0 : Nat), .int .u64 (q1 : Nat), .int .u64 (q2 : Nat), .int .u64 (q3 : Nat)], .agg #[.int .u64 1, .int .u64 0, .int .u64 0, .int .u64 0]] w fun e w' => e = .returned (.tuple #[.agg #[.int .u64 (v0 : Nat), .int .u64 (v1 : Nat), .int .u64 (v2 : Nat), .int .u64 (v3 : Nat)], .bool (decide (2 ^ 256 ≤ (2 ^ 256 - 1 - expT c) / (expT c + 1) + 1))]) ∧ Below w.heap.size w w' := fun w => by
      have hl := workN_lt (expT c) Hg.out.1 Hg.out.2
      have h := Add_any ((2 ^ 256 - 1 - expT c) / (expT c + 1)) 1 (Nat.lt_of_succ_lt hl) (by decide) w
      rw [Nat.mod_eq_of_lt (show (2 ^ 256 - 1 - expT c) / (expT c + 1) + 1 < 2 ^ 256 from hl)] at h
      rw [wd_opaque_eq HQ, wd_one, wd_opaque_eq HV]; exact h
    obtain ⟨ov1, hov1⟩ : ∃ x : Bool, decide (2 ^ 256 ≤ expT c + 1) = x := ⟨_, rfl⟩
    obtain ⟨ov2, hov2⟩ : ∃ x : Bool, decide (2 ^ 256 ≤ (2 ^ 256 - 1 - expT c) / (expT c + 1) + 1) = x := ⟨_, rfl⟩
    rw [hov1] at cA
    rw [hov2] at cV
    clear hov1 hov2
    go_enter Try.func22, Try.ntmps22
    go_upto_region 6 with (first
      | ((with_reducible refine (cX _).mono ?_); rintro e W1 ⟨rfl, hb1⟩; have bk1 := (Blk.new w #[.int .u64 0, .int .u64 0, .int .u64 0, .int .u64 0] 44).below hb1 (by simp))
      | ((with_reducible refine (cO _).mono ?_); rintro e W2 ⟨rfl, hb2⟩; have bt2 := (Blk.new W1 #[.int .u64 (t0 : Nat), .int .u64 (t1 : Nat), .int .u64 (t2 : Nat), .int .u64 (t3 : Nat)] 44).below hb2 (by simp); have bk2 := (bk1.alloc _).below hb2 (by have := bk1.lt; simp; omega); have lt2 := bt2.lt; obtain ⟨⟨g0, g1, g2, g3⟩, -⟩ := bt2.four)
      | ((with_reducible refine (cA _).mono ?_); rintro e W3 ⟨rfl, hb3⟩; have bt3 := (bt2.alloc _).below hb3 (by have := bt2.lt; simp; omega); have bk3 := (bk2.alloc _).below hb3 (by have := bk2.lt; simp; omega); have bo3 := (Blk.new W2 #[.int .u64 1, .int .u64 0, .int .u64 0, .int .u64 0] 44).below hb3 (by simp); have lt3 := bt3.lt; have lt4 := bo3.lt; have lt0 := bk3.lt; obtain ⟨⟨i0, i1, i2, i3⟩, -⟩ := bt3.four; obtain ⟨⟨k0, k1, k2, k3⟩, -⟩ := bo3.four; obtain ⟨⟨z0, z1, z2, z3⟩, ⟨y0, y1, y2, y3⟩⟩ := bk3.four))
    have hB3 : Below w.heap.size w W3 := bl_step (bl_alloc (bl_step (bl_alloc (bl_step (bl_alloc (Below.refl _ _)) hb1)) hb2)) hb3
    clear g0 g1 g2 g3 lt2 bk1 bt2 bk2 bt3 hb1 hb2 hb3 cX cO cA
    go_cut [8, 9] (fun s8 s9 wx => ∃ b8 : Nat, s8 = .pointer (some ⟨b8, 0, none⟩) ∧ Blk wx b8 #[.int .u64 (q0 : Nat), .int .u64 (q1 : Nat), .int .u64 (q2 : Nat), .int .u64 (q3 : Nat)] 44 ∧
      Blk wx W2.heap.size #[.int .u64 1, .int .u64 0, .int .u64 0, .int .u64 0] 44 ∧ Blk wx w.heap.size #[.int .u64 0, .int .u64 0, .int .u64 0, .int .u64 0] 44 ∧ Below w.heap.size w wx)
    case first =>
      clear cV HT HN HU HQ HR HV HE Hg
      have l1 := lt_up lt3
      have l2 := lt_up lt4
      have l3 := lt_up lt0
      have l4 := lt_up (Nat.lt_succ_self W3.heap.size)
      have m1 := ne_up lt3
      have m2 := ne_up lt4
      have m3 := ne_up lt0
      have m4 := ne_up (Nat.lt_succ_self W3.heap.size)
      go_region_held3 (fun w' => (w'.cell? ⟨W1.heap.size, 0, none⟩ = some (.int .u64 (t0 : Nat)) ∧ w'.cell? ⟨W1.heap.size, 1, none⟩ = some (.int .u64 (t1 : Nat)) ∧ w'.cell? ⟨W1.heap.size, 2, none⟩ = some (.int .u64 (t2 : Nat)) ∧ w'.cell? ⟨W1.heap.size, 3, none⟩ = some (.int .u64 (t3 : Nat))) ∧ (w'.cell? ⟨W3.heap.size, 0, none⟩ = some (.int .u64 (n0 : Nat)) ∧ w'.cell? ⟨W3.heap.size, 1, none⟩ = some (.int .u64 (n1 : Nat)) ∧ w'.cell? ⟨W3.heap.size, 2, none⟩ = some (.int .u64 (n2 : Nat)) ∧ w'.cell? ⟨W3.heap.size, 3, none⟩ = some (.int .u64 (n3 : Nat)))) (simp [*, World.cell?_alloc_lt, World.cell?_alloc_old, World.cell?_setCell_far])
        (first
          | ((with_reducible refine (cN _).mono ?_); rintro e W4 ⟨rfl, hb4⟩; have hc4 : ∀ a : Addr, a.block < _ → W4.cell? a = _ := fun a h => hb4.cell h; have hf4 : ∀ a : Addr, a.block < _ → W4.frozen? a = _ := fun a h => hb4.frozen h; have hs4 := hb4.size; have hh4 := Lib.hid hb4; have hB4 : Below w.heap.size w W4 := bl_step (by repeat (first | with_reducible exact hB3 | with_reducible refine bl_alloc ?_ | with_reducible refine bl_drew ?_)) hb4; clear hb4; (try simp at hs4); ((try have := lt_up (show W3.heap.size < W4.heap.size by omega)); (try have := ne_up (show W3.heap.size < W4.heap.size by omega)); (try have := lt_up (show W3.heap.size + 1 < W4.heap.size by omega)); (try have := ne_up (show W3.heap.size + 1 < W4.heap.size by omega)); (try have := lt_up (show W3.heap.size + 1 + 1 < W4.heap.size by omega)); (try have := ne_up (show W3.heap.size + 1 + 1 < W4.heap.size by omega))); ((try have := lt_up (show W1.heap.size < W4.heap.size by omega)); (try have := ne_up (show W1.heap.size < W4.heap.size by omega)); (try have := lt_up (show W1.heap.size + 1 < W4.heap.size by omega)); (try have := ne_up (show W1.heap.size + 1 < W4.heap.size by omega)); (try have := lt_up (show W1.heap.size + 1 + 1 < W4.heap.size by omega)); (try have := ne_up (show W1.heap.size + 1 + 1 < W4.heap.size by omega))); ((try have := lt_up (show W2.heap.size < W4.heap.size by omega)); (try have := ne_up (show W2.heap.size < W4.heap.size by omega)); (try have := lt_up (show W2.heap.size + 1 < W4.heap.size by omega)); (try have := ne_up (show W2.heap.size + 1 < W4.heap.size by omega)); (try have := lt_up (show W2.heap.size + 1 + 1 < W4.heap.size by omega)); (try have := ne_up (show W2.heap.size + 1 + 1 < W4.heap.size by omega))); ((try have := lt_up (show w.heap.size < W4.heap.size by omega)); (try have := ne_up (show w.heap.size < W4.heap.size by omega)); (try have := lt_up (show w.heap.size + 1 < W4.heap.size by omega)); (try have := ne_up (show w.heap.size + 1 < W4.heap.size by omega)); (try have := lt_up (show w.heap.size + 1 + 1 < W4.heap.size by omega)); (try have := ne_up (show w.heap.size + 1 + 1 < W4.heap.size by omega))))
          | ((with_reducible refine (cQ _).mono ?_); rintro e W5 ⟨rfl, hb5⟩; have hc5 : ∀ a : Addr, a.block < _ → W5.cell? a = _ := fun a h => hb5.cell h; have hf5 : ∀ a : Addr, a.block < _ → W5.frozen? a = _ := fun a h => hb5.frozen h; have hs5 := hb5.size; have hh5 := Lib.hid hb5; have hB5 : Below w.heap.size w W5 := bl_step (by repeat (first | with_reducible exact hB4 | with_reducible refine bl_alloc ?_ | with_reducible refine bl_drew ?_)) hb5; clear hb5; (try simp at hs5); ((try have := lt_up (show W4.heap.size < W5.heap.size by omega)); (try have := ne_up (show W4.heap.size < W5.heap.size by omega)); (try have := lt_up (show W4.heap.size + 1 < W5.heap.size by omega)); (try have := ne_up (show W4.heap.size + 1 < W5.heap.size by omega)); (try have := lt_up (show W4.heap.size + 1 + 1 < W5.heap.size by omega)); (try have := ne_up (show W4.heap.size + 1 + 1 < W5.heap.size by omega))); ((try have := lt_up (show W3.heap.size < W5.heap.size by omega)); (try have := ne_up (show W3.heap.size < W5.heap.size by omega)); (try have := lt_up (show W3.heap.size + 1 < W5.heap.size by omega)); (try have := ne_up (show W3.heap.size + 1 < W5.heap.size by omega)); (try have := lt_up (show W3.heap.size + 1 + 1 < W5.heap.size by omega)); (try have := ne_up (show W3.heap.size + 1 + 1 < W5.heap.size by omega))); ((try have := lt_up (show W1.heap.size < W5.heap.size by omega)); (try have := ne_up (show W1.heap.size < W5.heap.size by omega)); (try have := lt_up (show W1.heap.size + 1 < W5.heap.size by omega)); (try have := ne_up (show W1.heap.size + 1 < W5.heap.size by omega)); (try have := lt_up (show W1.heap.size + 1 + 1 < W5.heap.size by omega)); (try have := ne_up (show W1.heap.size + 1 + 1 < W5.heap.size by omega))); ((try have := lt_up (show W2.heap.size < W5.heap.size by omega)); (try have := ne_up (show W2.heap.size < W5.heap.size by omega)); (try have := lt_up (show W2.heap.size + 1 < W5.heap.size by omega)); (try have := ne_up (show W2.heap.size + 1 < W5.heap.size by omega)); (try have := lt_up (show W2.heap.size + 1 + 1 < W5.heap.size by omega)); (try have := ne_up (show W2.heap.size + 1 + 1 < W5.heap.size by omega))); ((try have := lt_up (show w.heap.size < W5.heap.size by omega)); (try have := ne_up (show w.heap.size < W5.heap.size by omega)); (try have := lt_up (show w.heap.size + 1 < W5.heap.size by omega)); (try have := ne_up (show w.heap.size + 1 < W5.heap.size by omega)); (try have := lt_up (show w.heap.size + 1 + 1 < W5.heap.size by omega)); (try have := ne_up (show w.heap.size + 1 + 1 < W5.heap.size by omega)))))
      all_goals go_wp2_with fail
      all_goals go_meet
      all_goals refine ⟨_, rfl, ?_, ?_, ?_, ?_⟩
      all_goals (first | (repeat (first | with_reducible assumption | ((with_reducible apply Blk.new'); (focus (first | (simp; done) | omega | (simp; omega))); (exact rfl)) | with_reducible apply Blk.alloc' | with_reducible apply Blk.drew' | with_reducible apply Blk.drewN' | with_reducible apply Blk.set_of | ((with_reducible apply Blk.other'); (focus (first | (simp; done) | omega | (simp; omega)))) | ((with_reducible apply Blk.below'); (focus (with_reducible assumption))) | exact rfl)) | skip)
      all_goals (repeat (first | with_reducible exact hB5 | with_reducible refine bl_set (by first | (simp; done) | (simp; omega) | (show w.heap.size ≤ _; omega)) ?_ | with_reducible refine bl_alloc ?_ | with_reducible refine bl_drew ?_))
    case rest =>
      obtain ⟨b8, rfl, kq, ko, kz, hBc⟩ := hcut
      obtain ⟨⟨a0, a1, a2, a3⟩, -⟩ := kq.four
      obtain ⟨⟨c0, c1, c2, c3⟩, -⟩ := ko.four
      obtain ⟨⟨p0, p1, p2, p3⟩, ⟨f0, f1, f2, f3⟩⟩ := kz.four
      have ltw := World.block_lt_of_cell? _ _ p0
      clear z0 z1 z2 z3 y0 y1 y2 y3 i0 i1 i2 i3 k0 k1 k2 k3 cN cQ
      go_wp2_with ((with_reducible refine (cV _).mono ?_); rintro e W6 ⟨rfl, hb6⟩; have hh6 := Lib.hid hb6; have kz6 : Blk W6 w.heap.size #[.int .u64 0, .int .u64 0, .int .u64 0, .int .u64 0] 44 := (by (repeat (first | with_reducible assumption | ((with_reducible apply Blk.new'); (focus (first | (simp; done) | omega | (simp; omega))); (exact rfl)) | with_reducible apply Blk.alloc' | with_reducible apply Blk.drew' | with_reducible apply Blk.drewN' | with_reducible apply Blk.set_of | ((with_reducible apply Blk.other'); (focus (first | (simp; done) | omega | (simp; omega)))) | ((with_reducible apply Blk.below'); (focus (with_reducible assumption))) | exact rfl))); obtain ⟨⟨d0, d1, d2, d3⟩, ⟨e0, e1, e2, e3⟩⟩ := kz6.four; have lt6 := kz6.lt)
      refine bodyPost_ret (v := .agg #[.int .u64 (v0 : Nat), .int .u64 (v1 : Nat), .int .u64 (v2 : Nat), .int .u64 (v3 : Nat)]) (by simp [results, *, Try.results22, go_sem]) rfl ⟨by rw [wd_opaque_eq HV], ?_⟩
      have hB6 : Below w.heap.size w W6 := bl_step hBc hb6
      repeat (first | with_reducible exact hB6 | with_reducible refine bl_set (by first | (simp; done) | (simp; omega)) ?_ | with_reducible refine bl_alloc ?_ | with_reducible refine bl_drew ?_)
end Go.Proofs.Ytcfpgcejahfdfaa

/- The walk of target.Meets. -/
import Derived.Test.YtcfpgcejahfdfaaPairW
import Derived.Test.YtcfpgcejahfdfaaFromW
import Derived.Deep.RegionHeld3
import Derived.Deep.MidRow
namespace Go.Proofs.Ytcfpgcejahfdfaa
open Go.RowKit
set_option linter.unusedVariables false
set_option linter.unusedSimpArgs false

/-- What Meets' drawn region reads. -/
def MS (H : List Value) (B C t0 t1 t2 t3 : Nat) (W : World) : Prop :=
  W.rangeAt B 0 H ∧ (W.cell? ⟨C, 0, none⟩ = some (.int .u64 (t0 : Nat)) ∧ W.cell? ⟨C, 1, none⟩ = some (.int .u64 (t1 : Nat)) ∧ W.cell? ⟨C, 2, none⟩ = some (.int .u64 (t2 : Nat)) ∧ W.cell? ⟨C, 3, none⟩ = some (.int .u64 (t3 : Nat)))

theorem rangeAt_below {w W : World} {b : Nat} {H : List Value} (h : w.rangeAt b 0 H) (hb : Below w.heap.size w W) : W.rangeAt b 0 H := fun j v hv => by
  have := h j v hv
  exact (hb.cell (World.block_lt_of_cell? w _ this)).trans this

theorem cell_below {w W : World} {a : Addr} {v : Value} (h : w.cell? a = some v) (hb : Below w.heap.size w W) : W.cell? a = some v :=
  (hb.cell (World.block_lt_of_cell? w _ h)).trans h

set_option maxHeartbeats 4000000 in
theorem Meets_any (b : Nat → Nat) (H : Array Value) (hs : H.size = 32) (hH : ∀ j, j < 32 → H[j]? = some (.int .u8 (b j : Nat))) (hb : ∀ j, b j < 256) (c l : Nat) (hc : c < 2 ^ 32) (hl : l < 2 ^ 32) (w : World) :
    Calls Try.prog 24 #[.agg H, .int .u32 (c : Nat), .int .u32 (l : Nat)] w fun e w' => e = .returned (.int .i64 (meetsN (fromN b) c l)) ∧ Below w.heap.size w w' := by
  obtain ⟨t0, t1, t2, t3, HT⟩ := wd_opaque (expT c)
  obtain ⟨m0, m1, m2, m3, HM⟩ := wd_opaque (expT l)
  obtain ⟨r0, r1, r2, r3, HR⟩ := wd_opaque (fromN b)
  obtain ⟨ok, HOK⟩ : ∃ o : Bool, Hid ((expE c == 0 && expE l == 0) = o) := ⟨_, rfl⟩
  obtain ⟨k1, HK1⟩ : ∃ k, Hid (cmpN (expT c) (expT l) = k) := ⟨_, rfl⟩
  obtain ⟨k2, HK2⟩ : ∃ k, Hid (cmpN (fromN b) (expT c) = k) := ⟨_, rfl⟩
  have cP : ∀ w : World, Calls Try.prog 38 #[.int .u32 (c : Nat), .int .u32 (l : Nat)] w fun e w' => e = .returned (.tuple #[.agg #[.int .u64 (t0 : Nat), .int .u64 (t1 : Nat), .int .u64 (t2 : Nat), .int .u64 (t3 : Nat)], .agg #[.int .u64 (m0 : Nat), .int .u64 (m1 : Nat), .int .u64 (m2 : Nat), .int .u64 (m3 : Nat)], .bool ok]) ∧ Below w.heap.size w w' := fun w => by
    rw [wd_opaque_eq HT, wd_opaque_eq HM, ← HOK.out]; exact pair_any c l hc hl w
  have cC : ∀ w : World, Calls Try.prog 23 #[.agg #[.int .u64 (t0 : Nat), .int .u64 (t1 : Nat), .int .u64 (t2 : Nat), .int .u64 (t3 : Nat)], .agg #[.int .u64 (m0 : Nat), .int .u64 (m1 : Nat), .int .u64 (m2 : Nat), .int .u64 (m3 : Nat)]] w fun e w' => e = .returned (.int .i64 k1) ∧ Below w.heap.size w w' := fun w => by
    rw [wd_opaque_eq HT, wd_opaque_eq HM, ← HK1.out]; exact Cmp_any _ _ (expT_lt c) (expT_lt l) w
  have cD : ∀ w : World, Calls Try.prog 23 #[.agg #[.int .u64 (r0 : Nat), .int .u64 (r1 : Nat), .int .u64 (r2 : Nat), .int .u64 (r3 : Nat)], .agg #[.int .u64 (t0 : Nat), .int .u64 (t1 : Nat), .int .u64 (t2 : Nat), .int .u64 (t3 : Nat)]] w fun e w' => e = .returned (.int .i64 k2) ∧ Below w.heap.size w w' := fun w => by
    rw [wd_opaque_eq HT, wd_opaque_eq HR, ← HK2.out]; exact Cmp_any _ _ (fromN_lt b) (expT_lt c) w
  have cF : ∀ w : World, Calls Try.prog 39 #[.agg H] w fun e w' => e = .returned (.agg #[.int .u64 (r0 : Nat), .int .u64 (r1 : Nat), .int .u64 (r2 : Nat), .int .u64 (r3 : Nat)]) ∧ Below w.heap.size w w' := fun w => by
    rw [wd_opaque_eq HR]; exact From_any b H hH hb w
  have hm : meetsN (fromN b) c l = if ok = false ∨ 0 < k1 then 11 else if 0 < k2 then 10 else 0 := by
    unfold meetsN
    rw [← HOK.out, ← HK1.out, ← HK2.out]
    have a1 : (0 < cmpN (expT c) (expT l)) ↔ expT l < expT c := by unfold cmpN; split <;> (try split) <;> omega
    have a2 : (0 < cmpN (fromN b) (expT c)) ↔ expT c < fromN b := by unfold cmpN; split <;> (try split) <;> omega
    have a3 : ((expE c == 0 && expE l == 0) = false) ↔ (expE c ≠ 0 ∨ expE l ≠ 0) := by simp; by_cases e : expE c = 0 <;> simp [e]
    simp only [a1, a2, a3, or_assoc]
  have Hm := Lib.hid hm
  have HH := Lib.hid hH
  have Hb := Lib.hid hb
  have HS := Lib.hid hs
  clear hm hH hb hs hc hl
  have hP : ∀ w : World, (w.alloc (.cells H 42)).rangeAt w.heap.size 0 H.toList := fun w j v hv => by
    have := (Blk.new w H 42).cell (0 + j)
    rw [this]; simpa using hv
  cases hok : ok with
  | false =>
    have hr := Hm.out
    rw [if_pos (Or.inl hok)] at hr
    subst hok
    go_enter Try.func24, Try.ntmps24
    go_wp2_with (with_reducible refine (cP _).mono ?_; rintro e W1 ⟨rfl, hb1⟩)
    refine bodyPost_ret (v := .int .i64 11) (by simp [results, *, Try.results24, go_sem]) rfl ⟨by rw [hr], ?_⟩
    have hB1 : Below w.heap.size w W1 := bl_step (bl_alloc (Below.refl _ _)) hb1
    repeat (first | with_reducible exact hB1 | with_reducible refine bl_alloc ?_ | with_reducible refine bl_drew ?_)
  | true =>
  subst hok
  by_cases g1 : 0 < k1
  · have hr := Hm.out
    rw [if_pos (Or.inr g1)] at hr
    go_enter Try.func24, Try.ntmps24
    go_wp2_with (first | (with_reducible refine (cP _).mono ?_; rintro e W1 ⟨rfl, hb1⟩) | (with_reducible refine (cC _).mono ?_; rintro e W2 ⟨rfl, hb2⟩))
    refine bodyPost_ret (v := .int .i64 11) (by simp [results, *, Try.results24, go_sem]) rfl ⟨by rw [hr], ?_⟩
    have hB1 : Below w.heap.size w W1 := bl_step (bl_alloc (Below.refl _ _)) hb1
    have hB2 : Below w.heap.size w W2 := bl_step (bl_alloc (bl_alloc hB1)) hb2
    repeat (first | with_reducible exact hB2 | with_reducible refine bl_alloc ?_ | with_reducible refine bl_drew ?_)
  have hr := Hm.out
  rw [if_neg (by simp [g1])] at hr
  have hu : (Try.prog).underlying 42 = some (.array 32 5) := by kernel_rfl
  have hsz : ((Try.prog).info? 42).map (·.size) = some H.toList.length := by
    rw [Array.length_toList, HS.out]; kernel_rfl
  have hln : H.toList.length = 32 := by rw [Array.length_toList, HS.out]
  have h1c : ∀ v ∈ H.toList, v.oneCell' = true := fun v hv => by
    obtain ⟨j, hj, e⟩ := List.mem_iff_getElem.1 hv
    have h2 := HH.out j (by omega)
    rw [← Array.getElem?_toList, List.getElem?_eq_getElem hj, e] at h2
    cases h2
    rfl
  by_cases g2 : 0 < k2
  all_goals
    go_enter Try.func24, Try.ntmps24
    go_wp2_with (first | (with_reducible refine (cP _).mono ?_; rintro e W1 ⟨rfl, hb1⟩; have hr1 := rangeAt_below (hP w) hb1) | (with_reducible refine (cC _).mono ?_; rintro e W2 ⟨rfl, hb2⟩; have hr2 := rangeAt_below (World.rangeAt_alloc (World.rangeAt_alloc hr1 _) _) hb2; have bt2 := ((Blk.new W1 #[.int .u64 (t0 : Nat), .int .u64 (t1 : Nat), .int .u64 (t2 : Nat), .int .u64 (t3 : Nat)] 44).alloc (.cells #[.int .u64 (m0 : Nat), .int .u64 (m1 : Nat), .int .u64 (m2 : Nat), .int .u64 (m3 : Nat)] 44)).below hb2 (by simp; omega); obtain ⟨⟨x0, x1, x2, x3⟩, -⟩ := bt2.four))
    have hB1 : Below w.heap.size w W1 := bl_step (bl_alloc (Below.refl _ _)) hb1
    have hB2 : Below w.heap.size w W2 := bl_step (bl_alloc (bl_alloc hB1)) hb2
    have hr2' : W2.drew.rangeAt w.heap.size 0 H.toList := hr2
    have x0' : W2.drew.cell? ⟨W1.heap.size, 0, none⟩ = some (.int .u64 (t0 : Nat)) := x0
    have x1' : W2.drew.cell? ⟨W1.heap.size, 1, none⟩ = some (.int .u64 (t1 : Nat)) := x1
    have x2' : W2.drew.cell? ⟨W1.heap.size, 2, none⟩ = some (.int .u64 (t2 : Nat)) := x2
    have x3' : W2.drew.cell? ⟨W1.heap.size, 3, none⟩ = some (.int .u64 (t3 : Nat)) := x3
    have hB2' : Below w.heap.size w W2.drew := bl_drew hB2
    go_region_held3 (fun w' => w'.rangeAt w.heap.size 0 H.toList ∧ w'.cell? ⟨W1.heap.size, 0, none⟩ = some (.int .u64 (t0 : Nat)) ∧ w'.cell? ⟨W1.heap.size, 1, none⟩ = some (.int .u64 (t1 : Nat)) ∧ w'.cell? ⟨W1.heap.size, 2, none⟩ = some (.int .u64 (t2 : Nat)) ∧ w'.cell? ⟨W1.heap.size, 3, none⟩ = some (.int .u64 (t3 : Nat)))
      (refine ⟨?_, ?_, ?_, ?_, ?_⟩ <;> first | assumption | (simp only [World.rangeAt_drew, World.cell?_drew]; assumption))
      (first
        | (with_reducible refine (cF _).mono ?_; rintro e W3 ⟨rfl, hb3⟩; have hr3 := rangeAt_below hr2' hb3; have j0 := cell_below x0' hb3; have j1 := cell_below x1' hb3; have j2 := cell_below x2' hb3; have j3 := cell_below x3' hb3; have hB3 := bl_step hB2' hb3)
        | (with_reducible refine (cD _).mono ?_; rintro e W4 ⟨rfl, hb4⟩; have hr4 := rangeAt_below hr3 hb4; have l0 := cell_below j0 hb4; have l1 := cell_below j1 hb4; have l2 := cell_below j2 hb4; have l3 := cell_below j3 hb4; have hB4 := bl_step hB3 hb4))
    go_wp2_with fail
    first | rw [if_pos g2] at hr | rw [if_neg (by omega)] at hr
    refine bodyPost_ret (v := .int .i64 (meetsN (fromN b) c l)) (by rw [hr]; simp [results, *, Try.results24, go_sem]) rfl ⟨rfl, hB4⟩
end Go.Proofs.Ytcfpgcejahfdfaa

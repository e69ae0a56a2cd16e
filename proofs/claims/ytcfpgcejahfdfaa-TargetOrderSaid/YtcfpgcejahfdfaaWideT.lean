/- The walk of wide.Shift. (Printed by gen_shift.py.) -/
import Derived.Test.YtcfpgcejahfdfaaWideS
namespace Go.Proofs.Ytcfpgcejahfdfaa
open Go.RowKit
set_option linter.unusedVariables false
set_option linter.unusedSimpArgs false

def pick4 (o0 o1 o2 o3 j : Nat) : Nat := match j with | 0 => o0 | 1 => o1 | 2 => o2 | _ => o3
/-- A word written, or not yet. -/
def outv (o0 o1 o2 o3 i j : Nat) : Nat := if j < i then pick4 o0 o1 o2 o3 j else 0

/-- What Shift's loop holds behind i rounds. -/
def ShiftI (A o0 o1 o2 o3 : Nat) (w : World) (i : Nat) (W : World) : Prop :=
  (W.cell? ⟨w.heap.size, 0, none⟩ = some (.int .u64 (limb 0 A : Nat)) ∧ W.cell? ⟨w.heap.size, 1, none⟩ = some (.int .u64 (limb 1 A : Nat)) ∧ W.cell? ⟨w.heap.size, 2, none⟩ = some (.int .u64 (limb 2 A : Nat)) ∧ W.cell? ⟨w.heap.size, 3, none⟩ = some (.int .u64 (limb 3 A : Nat))) ∧
  Blk W (w.heap.size + 1) #[.int .u64 (outv o0 o1 o2 o3 i 0 : Nat), .int .u64 (outv o0 o1 o2 o3 i 1 : Nat), .int .u64 (outv o0 o1 o2 o3 i 2 : Nat), .int .u64 (outv o0 o1 o2 o3 i 3 : Nat)] 44 ∧ Below w.heap.size w W ∧ w.heap.size + 2 ≤ W.heap.size

theorem ShiftI_next {A o0 o1 o2 o3 : Nat} {w wr W' : World} {i : Nat} (hi : i < 4) (h : ShiftI A o0 o1 o2 o3 w i wr) {o : Nat} (ho : o = pick4 o0 o1 o2 o3 i)
    (hW : Up (w.heap.size + 2) (wr.setCell ⟨w.heap.size + 1, i, none⟩ (.int .u64 (o : Nat))) W') : ShiftI A o0 o1 o2 o3 w (i + 1) W' := by
  obtain ⟨⟨c0, c1, c2, c3⟩, hob, hB, hsz⟩ := h
  have hb1 : Below (w.heap.size + 1) wr W' := ((Below.refl _ _).setCell (Nat.le_refl _) _).trans (hW.1.mono (Nat.le_succ _))
  refine ⟨⟨(hb1.cell (by simp)).trans c0, (hb1.cell (by simp)).trans c1, (hb1.cell (by simp)).trans c2, (hb1.cell (by simp)).trans c3⟩, ?_, ?_, hW.2⟩
  · have := (hob.set i (.int .u64 (o : Nat))).below hW.1 (by omega)
    subst ho
    rcases (show i = 0 ∨ i = 1 ∨ i = 2 ∨ i = 3 by omega) with rfl | rfl | rfl | rfl <;> simpa [outv, pick4] using this
  · exact (hB.setCell (by simp) _).trans (hW.1.mono (by omega))

set_option maxHeartbeats 2000000 in
theorem Shift_up (A : Nat) (s S1 S k : Int) (r : Nat) (hA : A < 2 ^ 256) (m1 : max s (-256) = S1) (m2 : min S1 256 = S) (hS1 : -256 ≤ S) (hS2 : S ≤ 256) (hr : r < 64) (hk1 : -5 ≤ k) (hk2 : k ≤ 4) (t1 : S.tdiv 64 = k) (t2 : S.tmod 64 = (r : Int)) (w : World) : Calls Try.prog 34 #[wd A, .int .i64 s] w fun e w' => e = .returned (wd (shiftN A (64 * k + r))) ∧ Below w.heap.size w w' := by
  have hw : ∀ x : Int, -2000 ≤ x → x ≤ 2000 → IntKind.i64.wrap x = x := fun x a b => IntWalk.i64_in x (by omega)
  obtain ⟨t, ht, ht0, ht1, HT⟩ : ∃ t : Nat, IntKind.i64.wrap (64 - (r : Int)) = (t : Int) ∧ (0 : Int) ≤ (t : Int) ∧ (t : Int) ≤ 64 ∧ Hid (t = 64 - r) := ⟨64 - r, by rw [hw _ (by omega) (by omega)]; omega, by omega, by omega, rfl⟩
  have hr0 : (0 : Int) ≤ (r : Int) := by omega
  have hr1 : (r : Int) ≤ 64 := by omega
  obtain ⟨y0, u0, v0, v0', Y0⟩ : ∃ y : Int, IntKind.i64.wrap (-k) = y ∧ -100 ≤ y ∧ y ≤ 100 ∧ Hid (y = ((0 : Nat) : Int) - k) := ⟨-k, hw _ (by omega) (by omega), by omega, by omega, by unfold Hid; omega⟩
  obtain ⟨z0, p0, q0, q0', Z0⟩ : ∃ z : Int, IntKind.i64.wrap (y0 - 1) = z ∧ -100 ≤ z ∧ z ≤ 100 ∧ Hid (z = ((0 : Nat) : Int) - k - 1) := ⟨y0 - 1, hw _ (by omega) (by omega), by have := Y0.out; omega, by have := Y0.out; omega, by unfold Hid; have := Y0.out; omega⟩
  obtain ⟨y1, u1, v1, v1', Y1⟩ : ∃ y : Int, IntKind.i64.wrap (1 - k) = y ∧ -100 ≤ y ∧ y ≤ 100 ∧ Hid (y = ((1 : Nat) : Int) - k) := ⟨1 - k, hw _ (by omega) (by omega), by omega, by omega, by unfold Hid; omega⟩
  obtain ⟨z1, p1, q1, q1', Z1⟩ : ∃ z : Int, IntKind.i64.wrap (y1 - 1) = z ∧ -100 ≤ z ∧ z ≤ 100 ∧ Hid (z = ((1 : Nat) : Int) - k - 1) := ⟨y1 - 1, hw _ (by omega) (by omega), by have := Y1.out; omega, by have := Y1.out; omega, by unfold Hid; have := Y1.out; omega⟩
  obtain ⟨y2, u2, v2, v2', Y2⟩ : ∃ y : Int, IntKind.i64.wrap (2 - k) = y ∧ -100 ≤ y ∧ y ≤ 100 ∧ Hid (y = ((2 : Nat) : Int) - k) := ⟨2 - k, hw _ (by omega) (by omega), by omega, by omega, by unfold Hid; omega⟩
  obtain ⟨z2, p2, q2, q2', Z2⟩ : ∃ z : Int, IntKind.i64.wrap (y2 - 1) = z ∧ -100 ≤ z ∧ z ≤ 100 ∧ Hid (z = ((2 : Nat) : Int) - k - 1) := ⟨y2 - 1, hw _ (by omega) (by omega), by have := Y2.out; omega, by have := Y2.out; omega, by unfold Hid; have := Y2.out; omega⟩
  obtain ⟨y3, u3, v3, v3', Y3⟩ : ∃ y : Int, IntKind.i64.wrap (3 - k) = y ∧ -100 ≤ y ∧ y ≤ 100 ∧ Hid (y = ((3 : Nat) : Int) - k) := ⟨3 - k, hw _ (by omega) (by omega), by omega, by omega, by unfold Hid; omega⟩
  obtain ⟨z3, p3, q3, q3', Z3⟩ : ∃ z : Int, IntKind.i64.wrap (y3 - 1) = z ∧ -100 ≤ z ∧ z ≤ 100 ∧ Hid (z = ((3 : Nat) : Int) - k - 1) := ⟨y3 - 1, hw _ (by omega) (by omega), by have := Y3.out; omega, by have := Y3.out; omega, by unfold Hid; have := Y3.out; omega⟩
  clear hw
  obtain ⟨o0, ho0, HO0⟩ : ∃ o : Nat, bits .or .u64 (IntKind.u64.wrap ((atN A y0 : Int) * 2 ^ r)) ((atN A z0 : Int) / 2 ^ t) = (o : Int) ∧ Hid (o = limb 0 (shiftN A (64 * k + r))) := ⟨_, by rw [Y0.out, Z0.out, HT.out]; exact shift_word A 0 k r hA hr (by decide), rfl⟩
  obtain ⟨o1, ho1, HO1⟩ : ∃ o : Nat, bits .or .u64 (IntKind.u64.wrap ((atN A y1 : Int) * 2 ^ r)) ((atN A z1 : Int) / 2 ^ t) = (o : Int) ∧ Hid (o = limb 1 (shiftN A (64 * k + r))) := ⟨_, by rw [Y1.out, Z1.out, HT.out]; exact shift_word A 1 k r hA hr (by decide), rfl⟩
  obtain ⟨o2, ho2, HO2⟩ : ∃ o : Nat, bits .or .u64 (IntKind.u64.wrap ((atN A y2 : Int) * 2 ^ r)) ((atN A z2 : Int) / 2 ^ t) = (o : Int) ∧ Hid (o = limb 2 (shiftN A (64 * k + r))) := ⟨_, by rw [Y2.out, Z2.out, HT.out]; exact shift_word A 2 k r hA hr (by decide), rfl⟩
  obtain ⟨o3, ho3, HO3⟩ : ∃ o : Nat, bits .or .u64 (IntKind.u64.wrap ((atN A y3 : Int) * 2 ^ r)) ((atN A z3 : Int) / 2 ^ t) = (o : Int) ∧ Hid (o = limb 3 (shiftN A (64 * k + r))) := ⟨_, by rw [Y3.out, Z3.out, HT.out]; exact shift_word A 3 k r hA hr (by decide), rfl⟩
  go_enter Try.func34, Try.ntmps34
  go_wp2_with fail
  go_loopw [21] (fun t wr => ∃ i : Nat, i ≤ 4 ∧ t = .int .i64 (i : Int) ∧ ShiftI A o0 o1 o2 o3 w i wr) (fun t _ => (4 - intOf t).toNat)
  case atStart =>
    refine ⟨0, by omega, rfl, ⟨?_, ?_, ?_, ?_⟩, ?_, bl_alloc (bl_alloc (Below.refl _ _)), by simp⟩
    · rw [World.cell?_alloc_past _ _ _ (by simp), World.cell?_alloc_at _ _ _ _ rfl]; rfl
    · rw [World.cell?_alloc_past _ _ _ (by simp), World.cell?_alloc_at _ _ _ _ rfl]; rfl
    · rw [World.cell?_alloc_past _ _ _ (by simp), World.cell?_alloc_at _ _ _ _ rfl]; rfl
    · rw [World.cell?_alloc_past _ _ _ (by simp), World.cell?_alloc_at _ _ _ _ rfl]; rfl
    · have := Blk.new (w.alloc (.cells #[.int .u64 (limb 0 A : Nat), .int .u64 (limb 1 A : Nat), .int .u64 (limb 2 A : Nat), .int .u64 (limb 3 A : Nat)] 44)) #[.int .u64 0, .int .u64 0, .int .u64 0, .int .u64 0] 44
      simpa [outv] using this
  case round =>
    obtain ⟨i, hi, rfl, ⟨ca0, ca1, ca2, ca3⟩, hob, hB, hsz⟩ := hrel
    rcases (show i = 0 ∨ i = 1 ∨ i = 2 ∨ i = 3 ∨ i = 4 by omega) with rfl | rfl | rfl | rfl | rfl
    · have hc : wr.cell? ⟨w.heap.size + 1, 0, none⟩ = some (.int .u64 0) := hob.cell 0
      have hf := hob.frozen 0
      have n0 : w.heap.size + 1 < wr.heap.size := by omega
      have n1 : w.heap.size + 1 < wr.heap.size + 1 := by omega
      have n2 : w.heap.size < wr.heap.size := by omega
      have n3 : w.heap.size < wr.heap.size + 1 := by omega
      go_wp2_with fail
      go_region_with (first | (go_at_call 44; refine (at_any A _ (by omega) (by omega) _).mono ?_; rintro e w' ⟨rfl, rfl⟩))
      all_goals
        go_wp2_with fail
        go_roundw
        case rel =>
          refine ⟨1, by omega, rfl, ShiftI_next (i := 0) (by omega) ⟨⟨ca0, ca1, ca2, ca3⟩, hob, hB, hsz⟩ (o := o0) rfl ?_⟩
          repeat (first | exact up_refl (by rw [World.size_setCell]; exact hsz) | refine up_drew ?_ | refine up_alloc ?_)
        case measure => simp [intOf]
    · have hc : wr.cell? ⟨w.heap.size + 1, 1, none⟩ = some (.int .u64 0) := hob.cell 1
      have hf := hob.frozen 1
      have n0 : w.heap.size + 1 < wr.heap.size := by omega
      have n1 : w.heap.size + 1 < wr.heap.size + 1 := by omega
      have n2 : w.heap.size < wr.heap.size := by omega
      have n3 : w.heap.size < wr.heap.size + 1 := by omega
      go_wp2_with fail
      go_region_with (first | (go_at_call 44; refine (at_any A _ (by omega) (by omega) _).mono ?_; rintro e w' ⟨rfl, rfl⟩))
      all_goals
        go_wp2_with fail
        go_roundw
        case rel =>
          refine ⟨2, by omega, rfl, ShiftI_next (i := 1) (by omega) ⟨⟨ca0, ca1, ca2, ca3⟩, hob, hB, hsz⟩ (o := o1) rfl ?_⟩
          repeat (first | exact up_refl (by rw [World.size_setCell]; exact hsz) | refine up_drew ?_ | refine up_alloc ?_)
        case measure => simp [intOf]
    · have hc : wr.cell? ⟨w.heap.size + 1, 2, none⟩ = some (.int .u64 0) := hob.cell 2
      have hf := hob.frozen 2
      have n0 : w.heap.size + 1 < wr.heap.size := by omega
      have n1 : w.heap.size + 1 < wr.heap.size + 1 := by omega
      have n2 : w.heap.size < wr.heap.size := by omega
      have n3 : w.heap.size < wr.heap.size + 1 := by omega
      go_wp2_with fail
      go_region_with (first | (go_at_call 44; refine (at_any A _ (by omega) (by omega) _).mono ?_; rintro e w' ⟨rfl, rfl⟩))
      all_goals
        go_wp2_with fail
        go_roundw
        case rel =>
          refine ⟨3, by omega, rfl, ShiftI_next (i := 2) (by omega) ⟨⟨ca0, ca1, ca2, ca3⟩, hob, hB, hsz⟩ (o := o2) rfl ?_⟩
          repeat (first | exact up_refl (by rw [World.size_setCell]; exact hsz) | refine up_drew ?_ | refine up_alloc ?_)
        case measure => simp [intOf]
    · have hc : wr.cell? ⟨w.heap.size + 1, 3, none⟩ = some (.int .u64 0) := hob.cell 3
      have hf := hob.frozen 3
      have n0 : w.heap.size + 1 < wr.heap.size := by omega
      have n1 : w.heap.size + 1 < wr.heap.size + 1 := by omega
      have n2 : w.heap.size < wr.heap.size := by omega
      have n3 : w.heap.size < wr.heap.size + 1 := by omega
      go_wp2_with fail
      go_region_with (first | (go_at_call 44; refine (at_any A _ (by omega) (by omega) _).mono ?_; rintro e w' ⟨rfl, rfl⟩))
      all_goals
        go_wp2_with fail
        go_roundw
        case rel =>
          refine ⟨4, by omega, rfl, ShiftI_next (i := 3) (by omega) ⟨⟨ca0, ca1, ca2, ca3⟩, hob, hB, hsz⟩ (o := o3) rfl ?_⟩
          repeat (first | exact up_refl (by rw [World.size_setCell]; exact hsz) | refine up_drew ?_ | refine up_alloc ?_)
        case measure => simp [intOf]
    · have c0 : wr.cell? ⟨w.heap.size + 1, 0, none⟩ = some (.int .u64 (o0 : Nat)) := hob.cell 0
      have c1 : wr.cell? ⟨w.heap.size + 1, 1, none⟩ = some (.int .u64 (o1 : Nat)) := hob.cell 1
      have c2 : wr.cell? ⟨w.heap.size + 1, 2, none⟩ = some (.int .u64 (o2 : Nat)) := hob.cell 2
      have c3 : wr.cell? ⟨w.heap.size + 1, 3, none⟩ = some (.int .u64 (o3 : Nat)) := hob.cell 3
      have f0 := hob.frozen 0
      have f1 := hob.frozen 1
      have f2 := hob.frozen 2
      have f3 := hob.frozen 3
      go_wp2_with fail
      refine bodyPost_ret (v := .agg #[.int .u64 (o0 : Nat), .int .u64 (o1 : Nat), .int .u64 (o2 : Nat), .int .u64 (o3 : Nat)]) (by simp [results, *, Try.results34, go_sem]) rfl ⟨?_, ?_⟩
      · rw [HO0.out, HO1.out, HO2.out, HO3.out]
      · repeat (first | exact hB | refine bl_set (by simp) ?_)

set_option maxHeartbeats 2000000 in
theorem Shift_down (A : Nat) (s S1 S k : Int) (r : Nat) (hA : A < 2 ^ 256) (m1 : max s (-256) = S1) (m2 : min S1 256 = S) (hS1 : -256 ≤ S) (hS2 : S ≤ 256) (hr : r < 64) (hk1 : -5 ≤ k) (hk2 : k ≤ 4) (k' r' : Int) (t1 : S.tdiv 64 = k') (t2 : S.tmod 64 = r') (t3 : r' < 0) (t6 : -10 ≤ k') (t7 : k' ≤ 10) (t8 : -64 ≤ r') (t4 : IntKind.i64.wrap (k' - 1) = k) (t5 : IntKind.i64.wrap (r' + 64) = (r : Int)) (w : World) : Calls Try.prog 34 #[wd A, .int .i64 s] w fun e w' => e = .returned (wd (shiftN A (64 * k + r))) ∧ Below w.heap.size w w' := by
  have hw : ∀ x : Int, -2000 ≤ x → x ≤ 2000 → IntKind.i64.wrap x = x := fun x a b => IntWalk.i64_in x (by omega)
  obtain ⟨t, ht, ht0, ht1, HT⟩ : ∃ t : Nat, IntKind.i64.wrap (64 - (r : Int)) = (t : Int) ∧ (0 : Int) ≤ (t : Int) ∧ (t : Int) ≤ 64 ∧ Hid (t = 64 - r) := ⟨64 - r, by rw [hw _ (by omega) (by omega)]; omega, by omega, by omega, rfl⟩
  have hr0 : (0 : Int) ≤ (r : Int) := by omega
  have hr1 : (r : Int) ≤ 64 := by omega
  obtain ⟨y0, u0, v0, v0', Y0⟩ : ∃ y : Int, IntKind.i64.wrap (-k) = y ∧ -100 ≤ y ∧ y ≤ 100 ∧ Hid (y = ((0 : Nat) : Int) - k) := ⟨-k, hw _ (by omega) (by omega), by omega, by omega, by unfold Hid; omega⟩
  obtain ⟨z0, p0, q0, q0', Z0⟩ : ∃ z : Int, IntKind.i64.wrap (y0 - 1) = z ∧ -100 ≤ z ∧ z ≤ 100 ∧ Hid (z = ((0 : Nat) : Int) - k - 1) := ⟨y0 - 1, hw _ (by omega) (by omega), by have := Y0.out; omega, by have := Y0.out; omega, by unfold Hid; have := Y0.out; omega⟩
  obtain ⟨y1, u1, v1, v1', Y1⟩ : ∃ y : Int, IntKind.i64.wrap (1 - k) = y ∧ -100 ≤ y ∧ y ≤ 100 ∧ Hid (y = ((1 : Nat) : Int) - k) := ⟨1 - k, hw _ (by omega) (by omega), by omega, by omega, by unfold Hid; omega⟩
  obtain ⟨z1, p1, q1, q1', Z1⟩ : ∃ z : Int, IntKind.i64.wrap (y1 - 1) = z ∧ -100 ≤ z ∧ z ≤ 100 ∧ Hid (z = ((1 : Nat) : Int) - k - 1) := ⟨y1 - 1, hw _ (by omega) (by omega), by have := Y1.out; omega, by have := Y1.out; omega, by unfold Hid; have := Y1.out; omega⟩
  obtain ⟨y2, u2, v2, v2', Y2⟩ : ∃ y : Int, IntKind.i64.wrap (2 - k) = y ∧ -100 ≤ y ∧ y ≤ 100 ∧ Hid (y = ((2 : Nat) : Int) - k) := ⟨2 - k, hw _ (by omega) (by omega), by omega, by omega, by unfold Hid; omega⟩
  obtain ⟨z2, p2, q2, q2', Z2⟩ : ∃ z : Int, IntKind.i64.wrap (y2 - 1) = z ∧ -100 ≤ z ∧ z ≤ 100 ∧ Hid (z = ((2 : Nat) : Int) - k - 1) := ⟨y2 - 1, hw _ (by omega) (by omega), by have := Y2.out; omega, by have := Y2.out; omega, by unfold Hid; have := Y2.out; omega⟩
  obtain ⟨y3, u3, v3, v3', Y3⟩ : ∃ y : Int, IntKind.i64.wrap (3 - k) = y ∧ -100 ≤ y ∧ y ≤ 100 ∧ Hid (y = ((3 : Nat) : Int) - k) := ⟨3 - k, hw _ (by omega) (by omega), by omega, by omega, by unfold Hid; omega⟩
  obtain ⟨z3, p3, q3, q3', Z3⟩ : ∃ z : Int, IntKind.i64.wrap (y3 - 1) = z ∧ -100 ≤ z ∧ z ≤ 100 ∧ Hid (z = ((3 : Nat) : Int) - k - 1) := ⟨y3 - 1, hw _ (by omega) (by omega), by have := Y3.out; omega, by have := Y3.out; omega, by unfold Hid; have := Y3.out; omega⟩
  clear hw
  obtain ⟨o0, ho0, HO0⟩ : ∃ o : Nat, bits .or .u64 (IntKind.u64.wrap ((atN A y0 : Int) * 2 ^ r)) ((atN A z0 : Int) / 2 ^ t) = (o : Int) ∧ Hid (o = limb 0 (shiftN A (64 * k + r))) := ⟨_, by rw [Y0.out, Z0.out, HT.out]; exact shift_word A 0 k r hA hr (by decide), rfl⟩
  obtain ⟨o1, ho1, HO1⟩ : ∃ o : Nat, bits .or .u64 (IntKind.u64.wrap ((atN A y1 : Int) * 2 ^ r)) ((atN A z1 : Int) / 2 ^ t) = (o : Int) ∧ Hid (o = limb 1 (shiftN A (64 * k + r))) := ⟨_, by rw [Y1.out, Z1.out, HT.out]; exact shift_word A 1 k r hA hr (by decide), rfl⟩
  obtain ⟨o2, ho2, HO2⟩ : ∃ o : Nat, bits .or .u64 (IntKind.u64.wrap ((atN A y2 : Int) * 2 ^ r)) ((atN A z2 : Int) / 2 ^ t) = (o : Int) ∧ Hid (o = limb 2 (shiftN A (64 * k + r))) := ⟨_, by rw [Y2.out, Z2.out, HT.out]; exact shift_word A 2 k r hA hr (by decide), rfl⟩
  obtain ⟨o3, ho3, HO3⟩ : ∃ o : Nat, bits .or .u64 (IntKind.u64.wrap ((atN A y3 : Int) * 2 ^ r)) ((atN A z3 : Int) / 2 ^ t) = (o : Int) ∧ Hid (o = limb 3 (shiftN A (64 * k + r))) := ⟨_, by rw [Y3.out, Z3.out, HT.out]; exact shift_word A 3 k r hA hr (by decide), rfl⟩
  go_enter Try.func34, Try.ntmps34
  go_wp2_with fail
  go_loopw [21] (fun t wr => ∃ i : Nat, i ≤ 4 ∧ t = .int .i64 (i : Int) ∧ ShiftI A o0 o1 o2 o3 w i wr) (fun t _ => (4 - intOf t).toNat)
  case atStart =>
    refine ⟨0, by omega, rfl, ⟨?_, ?_, ?_, ?_⟩, ?_, bl_alloc (bl_alloc (Below.refl _ _)), by simp⟩
    · rw [World.cell?_alloc_past _ _ _ (by simp), World.cell?_alloc_at _ _ _ _ rfl]; rfl
    · rw [World.cell?_alloc_past _ _ _ (by simp), World.cell?_alloc_at _ _ _ _ rfl]; rfl
    · rw [World.cell?_alloc_past _ _ _ (by simp), World.cell?_alloc_at _ _ _ _ rfl]; rfl
    · rw [World.cell?_alloc_past _ _ _ (by simp), World.cell?_alloc_at _ _ _ _ rfl]; rfl
    · have := Blk.new (w.alloc (.cells #[.int .u64 (limb 0 A : Nat), .int .u64 (limb 1 A : Nat), .int .u64 (limb 2 A : Nat), .int .u64 (limb 3 A : Nat)] 44)) #[.int .u64 0, .int .u64 0, .int .u64 0, .int .u64 0] 44
      simpa [outv] using this
  case round =>
    obtain ⟨i, hi, rfl, ⟨ca0, ca1, ca2, ca3⟩, hob, hB, hsz⟩ := hrel
    rcases (show i = 0 ∨ i = 1 ∨ i = 2 ∨ i = 3 ∨ i = 4 by omega) with rfl | rfl | rfl | rfl | rfl
    · have hc : wr.cell? ⟨w.heap.size + 1, 0, none⟩ = some (.int .u64 0) := hob.cell 0
      have hf := hob.frozen 0
      have n0 : w.heap.size + 1 < wr.heap.size := by omega
      have n1 : w.heap.size + 1 < wr.heap.size + 1 := by omega
      have n2 : w.heap.size < wr.heap.size := by omega
      have n3 : w.heap.size < wr.heap.size + 1 := by omega
      go_wp2_with fail
      go_region_with (first | (go_at_call 44; refine (at_any A _ (by omega) (by omega) _).mono ?_; rintro e w' ⟨rfl, rfl⟩))
      all_goals
        go_wp2_with fail
        go_roundw
        case rel =>
          refine ⟨1, by omega, rfl, ShiftI_next (i := 0) (by omega) ⟨⟨ca0, ca1, ca2, ca3⟩, hob, hB, hsz⟩ (o := o0) rfl ?_⟩
          repeat (first | exact up_refl (by rw [World.size_setCell]; exact hsz) | refine up_drew ?_ | refine up_alloc ?_)
        case measure => simp [intOf]
    · have hc : wr.cell? ⟨w.heap.size + 1, 1, none⟩ = some (.int .u64 0) := hob.cell 1
      have hf := hob.frozen 1
      have n0 : w.heap.size + 1 < wr.heap.size := by omega
      have n1 : w.heap.size + 1 < wr.heap.size + 1 := by omega
      have n2 : w.heap.size < wr.heap.size := by omega
      have n3 : w.heap.size < wr.heap.size + 1 := by omega
      go_wp2_with fail
      go_region_with (first | (go_at_call 44; refine (at_any A _ (by omega) (by omega) _).mono ?_; rintro e w' ⟨rfl, rfl⟩))
      all_goals
        go_wp2_with fail
        go_roundw
        case rel =>
          refine ⟨2, by omega, rfl, ShiftI_next (i := 1) (by omega) ⟨⟨ca0, ca1, ca2, ca3⟩, hob, hB, hsz⟩ (o := o1) rfl ?_⟩
          repeat (first | exact up_refl (by rw [World.size_setCell]; exact hsz) | refine up_drew ?_ | refine up_alloc ?_)
        case measure => simp [intOf]
    · have hc : wr.cell? ⟨w.heap.size + 1, 2, none⟩ = some (.int .u64 0) := hob.cell 2
      have hf := hob.frozen 2
      have n0 : w.heap.size + 1 < wr.heap.size := by omega
      have n1 : w.heap.size + 1 < wr.heap.size + 1 := by omega
      have n2 : w.heap.size < wr.heap.size := by omega
      have n3 : w.heap.size < wr.heap.size + 1 := by omega
      go_wp2_with fail
      go_region_with (first | (go_at_call 44; refine (at_any A _ (by omega) (by omega) _).mono ?_; rintro e w' ⟨rfl, rfl⟩))
      all_goals
        go_wp2_with fail
        go_roundw
        case rel =>
          refine ⟨3, by omega, rfl, ShiftI_next (i := 2) (by omega) ⟨⟨ca0, ca1, ca2, ca3⟩, hob, hB, hsz⟩ (o := o2) rfl ?_⟩
          repeat (first | exact up_refl (by rw [World.size_setCell]; exact hsz) | refine up_drew ?_ | refine up_alloc ?_)
        case measure => simp [intOf]
    · have hc : wr.cell? ⟨w.heap.size + 1, 3, none⟩ = some (.int .u64 0) := hob.cell 3
      have hf := hob.frozen 3
      have n0 : w.heap.size + 1 < wr.heap.size := by omega
      have n1 : w.heap.size + 1 < wr.heap.size + 1 := by omega
      have n2 : w.heap.size < wr.heap.size := by omega
      have n3 : w.heap.size < wr.heap.size + 1 := by omega
      go_wp2_with fail
      go_region_with (first | (go_at_call 44; refine (at_any A _ (by omega) (by omega) _).mono ?_; rintro e w' ⟨rfl, rfl⟩))
      all_goals
        go_wp2_with fail
        go_roundw
        case rel =>
          refine ⟨4, by omega, rfl, ShiftI_next (i := 3) (by omega) ⟨⟨ca0, ca1, ca2, ca3⟩, hob, hB, hsz⟩ (o := o3) rfl ?_⟩
          repeat (first | exact up_refl (by rw [World.size_setCell]; exact hsz) | refine up_drew ?_ | refine up_alloc ?_)
        case measure => simp [intOf]
    · have c0 : wr.cell? ⟨w.heap.size + 1, 0, none⟩ = some (.int .u64 (o0 : Nat)) := hob.cell 0
      have c1 : wr.cell? ⟨w.heap.size + 1, 1, none⟩ = some (.int .u64 (o1 : Nat)) := hob.cell 1
      have c2 : wr.cell? ⟨w.heap.size + 1, 2, none⟩ = some (.int .u64 (o2 : Nat)) := hob.cell 2
      have c3 : wr.cell? ⟨w.heap.size + 1, 3, none⟩ = some (.int .u64 (o3 : Nat)) := hob.cell 3
      have f0 := hob.frozen 0
      have f1 := hob.frozen 1
      have f2 := hob.frozen 2
      have f3 := hob.frozen 3
      go_wp2_with fail
      refine bodyPost_ret (v := .agg #[.int .u64 (o0 : Nat), .int .u64 (o1 : Nat), .int .u64 (o2 : Nat), .int .u64 (o3 : Nat)]) (by simp [results, *, Try.results34, go_sem]) rfl ⟨?_, ?_⟩
      · rw [HO0.out, HO1.out, HO2.out, HO3.out]
      · repeat (first | exact hB | refine bl_set (by simp) ?_)

theorem Shift_any (A : Nat) (s : Int) (hA : A < 2 ^ 256) (w : World) : Calls Try.prog 34 #[wd A, .int .i64 s] w fun e w' => e = .returned (wd (shiftN A s)) ∧ Below w.heap.size w w' := by
  rw [← shift_clamp A s hA]
  obtain ⟨S1, m1⟩ : ∃ S1, max s (-256) = S1 := ⟨_, rfl⟩
  obtain ⟨S, m2⟩ : ∃ S, min S1 256 = S := ⟨_, rfl⟩
  rw [m1, m2]
  have hS1 : -256 ≤ S := by omega
  have hS2 : S ≤ 256 := by omega
  obtain ⟨k, r, hr, hS⟩ : ∃ (k : Int) (r : Nat), r < 64 ∧ S = 64 * k + r := ⟨S / 64, (S % 64).toNat, by omega, by omega⟩
  have hcase : (S.tdiv 64 = k ∧ S.tmod 64 = (r : Int)) ∨ (S.tdiv 64 = k + 1 ∧ S.tmod 64 = (r : Int) - 64 ∧ 0 < r) := by
    rcases Int.le_total 0 S with h0 | h0
    · left
      rw [Int.tdiv_eq_ediv_of_nonneg h0, Int.tmod_eq_emod_of_nonneg h0]; omega
    · obtain ⟨T, rfl⟩ : ∃ T : Int, S = -T := ⟨-S, by omega⟩
      have a1 := Int.neg_tdiv T 64
      have a2 := Int.neg_tmod T 64
      rw [Int.tdiv_eq_ediv_of_nonneg (a := T) (by omega)] at a1
      rw [Int.tmod_eq_emod_of_nonneg (a := T) (by omega)] at a2
      omega
  have hw : ∀ x : Int, -2000 ≤ x → x ≤ 2000 → IntKind.i64.wrap x = x := fun x a b => IntWalk.i64_in x (by omega)
  rcases hcase with ⟨t1, t2⟩ | ⟨t1, t2, hr2⟩
  · subst hS
    exact Shift_up A s S1 _ k r hA m1 m2 hS1 hS2 hr (by omega) (by omega) t1 t2 w
  · subst hS
    exact Shift_down A s S1 _ k r hA m1 m2 hS1 hS2 hr (by omega) (by omega) _ _ t1 t2 (by omega) (by omega) (by omega) (by omega) (by rw [hw _ (by omega) (by omega)]; omega) (by rw [hw _ (by omega) (by omega)]; omega) w
end Go.Proofs.Ytcfpgcejahfdfaa

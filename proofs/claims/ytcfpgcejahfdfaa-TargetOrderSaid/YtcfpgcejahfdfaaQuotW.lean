/- The walk of wide.Quot. -/
import Derived.Test.YtcfpgcejahfdfaaWideT
import Derived.Test.YtcfpgcejahfdfaaWideB
import Derived.Test.YtcfpgcejahfdfaaQuotM
import Derived.Test.YtcfpgcejahfdfaaWideE
namespace Go.Proofs.Ytcfpgcejahfdfaa
open Go.RowKit
set_option linter.unusedVariables false
set_option linter.unusedSimpArgs false

/-- What lies in memory in Quot's loop. -/
def QI (A b Q x0 x1 x2 x3 : Nat) (w W : World) : Prop :=
  (∀ j, j < 4 → W.cell? ⟨w.heap.size, j, none⟩ = some (.int .u64 (limb j A : Nat))) ∧
  (∀ j, j < 4 → W.cell? ⟨w.heap.size + 1, j, none⟩ = some (.int .u64 (limb j b : Nat))) ∧
  (∀ j, j < 4 → W.cell? ⟨w.heap.size + 2, j, none⟩ = some (.int .u64 (limb j Q : Nat)) ∧ W.frozen? ⟨w.heap.size + 2, j, none⟩ = false) ∧
  Blk W (w.heap.size + 3) #[.int .u64 (x0 : Nat), .int .u64 (x1 : Nat), .int .u64 (x2 : Nat), .int .u64 (x3 : Nat)] 44 ∧ Below w.heap.size w W ∧ w.heap.size + 4 ≤ W.heap.size

theorem QI.up {A b Q x0 x1 x2 x3 : Nat} {w W W' : World} (h : QI A b Q x0 x1 x2 x3 w W) (hW : Up (w.heap.size + 4) W W') : QI A b Q x0 x1 x2 x3 w W' :=
  ⟨fun j hj => hW.cell (h.1 j hj) (by simp), fun j hj => hW.cell (h.2.1 j hj) (by simp), fun j hj => ⟨hW.cell (h.2.2.1 j hj).1 (by simp), hW.frozen (h.2.2.1 j hj).2 (by simp)⟩,
    hW.blk h.2.2.2.1 (by simp), h.2.2.2.2.1.trans (hW.1.mono (by omega)), hW.2⟩

/-- The rest is written whole. -/
theorem QI.setR {A b Q x0 x1 x2 x3 : Nat} {w W : World} (h : QI A b Q x0 x1 x2 x3 w W) (y0 y1 y2 y3 : Nat) :
    QI A b Q y0 y1 y2 y3 w ((((W.setCell ⟨w.heap.size + 3, 0, none⟩ (.int .u64 (y0 : Nat))).setCell ⟨w.heap.size + 3, 1, none⟩ (.int .u64 (y1 : Nat))).setCell ⟨w.heap.size + 3, 2, none⟩ (.int .u64 (y2 : Nat))).setCell ⟨w.heap.size + 3, 3, none⟩ (.int .u64 (y3 : Nat))) := by
  obtain ⟨ha, hb, hq, hr, hB, hs⟩ := h
  have u : Up (w.heap.size + 3) W ((((W.setCell ⟨w.heap.size + 3, 0, none⟩ (.int .u64 (y0 : Nat))).setCell ⟨w.heap.size + 3, 1, none⟩ (.int .u64 (y1 : Nat))).setCell ⟨w.heap.size + 3, 2, none⟩ (.int .u64 (y2 : Nat))).setCell ⟨w.heap.size + 3, 3, none⟩ (.int .u64 (y3 : Nat))) :=
    up_set (Nat.le_refl _) (up_set (Nat.le_refl _) (up_set (Nat.le_refl _) (up_set (Nat.le_refl _) (up_refl (by omega)))))
  refine ⟨fun j hj => u.cell (ha j hj) (by simp), fun j hj => u.cell (hb j hj) (by simp), fun j hj => ⟨u.cell (hq j hj).1 (by simp), u.frozen (hq j hj).2 (by simp)⟩, ?_, hB.trans (u.1.mono (by omega)), by simp only [World.size_setCell]; exact hs⟩
  have := (((hr.set 0 (.int .u64 (y0 : Nat))).set 1 (.int .u64 (y1 : Nat))).set 2 (.int .u64 (y2 : Nat))).set 3 (.int .u64 (y3 : Nat))
  simpa using this

theorem QI.setR0 {A b Q x0 x1 x2 x3 : Nat} {w W : World} (h : QI A b Q x0 x1 x2 x3 w W) (y0 : Nat) :
    QI A b Q y0 x1 x2 x3 w (W.setCell ⟨w.heap.size + 3, 0, none⟩ (.int .u64 (y0 : Nat))) := by
  obtain ⟨ha, hb, hq, hr, hB, hs⟩ := h
  have u : Up (w.heap.size + 3) W (W.setCell ⟨w.heap.size + 3, 0, none⟩ (.int .u64 (y0 : Nat))) :=
    up_set (Nat.le_refl _) (up_refl (by omega))
  refine ⟨fun j hj => u.cell (ha j hj) (by simp), fun j hj => u.cell (hb j hj) (by simp), fun j hj => ⟨u.cell (hq j hj).1 (by simp), u.frozen (hq j hj).2 (by simp)⟩, ?_, hB.trans (u.1.mono (by omega)), by simp only [World.size_setCell]; exact hs⟩
  simpa using hr.set 0 (.int .u64 (y0 : Nat))

/-- A bit is set in the quotient. -/
theorem QI.setQ {A b Q x0 x1 x2 x3 : Nat} {w W : World} (h : QI A b Q x0 x1 x2 x3 w W) (Q' j y : Nat) (hj : j < 4) (hy : y = limb j Q') (ho : ∀ j', j' ≠ j → limb j' Q' = limb j' Q) :
    QI A b Q' x0 x1 x2 x3 w (W.setCell ⟨w.heap.size + 2, j, none⟩ (.int .u64 (y : Nat))) := by
  obtain ⟨ha, hb, hq, hr, hB, hs⟩ := h
  have u : Up (w.heap.size + 2) W (W.setCell ⟨w.heap.size + 2, j, none⟩ (.int .u64 (y : Nat))) :=
    up_set (Nat.le_refl _) (up_refl (by omega))
  refine ⟨fun j hj => u.cell (ha j hj) (by simp), fun j hj => u.cell (hb j hj) (by simp), fun j' hj' => ⟨?_, ?_⟩, hr.other (by simp) _, hB.trans (u.1.mono (by omega)), by simp only [World.size_setCell]; exact hs⟩
  · by_cases e : j' = j
    · subst e
      rw [hy]
      exact World.cell?_setCell_same _ _ _ (hq _ hj).1
    · rw [World.cell?_setCell_other _ _ _ _ (by intro c; exact e (by injection c with _ c2; exact c2.symm)), ho j' e]
      exact (hq j' hj').1
  · rw [World.frozen?_setCell]; exact (hq j' hj').2

/-- What a walk reads of it. -/
theorem QI.facts {A b Q x0 x1 x2 x3 : Nat} {w W : World} (h : QI A b Q x0 x1 x2 x3 w W) (j : Nat) (hj : j < 4) :
    (W.cell? ⟨w.heap.size + 3, 0, none⟩ = some (.int .u64 (x0 : Nat)) ∧ W.cell? ⟨w.heap.size + 3, 1, none⟩ = some (.int .u64 (x1 : Nat)) ∧ W.cell? ⟨w.heap.size + 3, 2, none⟩ = some (.int .u64 (x2 : Nat)) ∧ W.cell? ⟨w.heap.size + 3, 3, none⟩ = some (.int .u64 (x3 : Nat))) ∧
    (W.frozen? ⟨w.heap.size + 3, 0, none⟩ = false ∧ W.frozen? ⟨w.heap.size + 3, 1, none⟩ = false ∧ W.frozen? ⟨w.heap.size + 3, 2, none⟩ = false ∧ W.frozen? ⟨w.heap.size + 3, 3, none⟩ = false) ∧
    W.cell? ⟨w.heap.size, j, none⟩ = some (.int .u64 (limb j A : Nat)) ∧
    (W.cell? ⟨w.heap.size + 1, 0, none⟩ = some (.int .u64 (limb 0 b : Nat)) ∧ W.cell? ⟨w.heap.size + 1, 1, none⟩ = some (.int .u64 (limb 1 b : Nat)) ∧ W.cell? ⟨w.heap.size + 1, 2, none⟩ = some (.int .u64 (limb 2 b : Nat)) ∧ W.cell? ⟨w.heap.size + 1, 3, none⟩ = some (.int .u64 (limb 3 b : Nat))) ∧
    W.cell? ⟨w.heap.size + 2, j, none⟩ = some (.int .u64 (limb j Q : Nat)) ∧ W.frozen? ⟨w.heap.size + 2, j, none⟩ = false :=
  ⟨⟨h.2.2.2.1.cell 0, h.2.2.2.1.cell 1, h.2.2.2.1.cell 2, h.2.2.2.1.cell 3⟩, ⟨h.2.2.2.1.frozen 0, h.2.2.2.1.frozen 1, h.2.2.2.1.frozen 2, h.2.2.2.1.frozen 3⟩, h.1 j hj, ⟨h.2.1 0 (by decide), h.2.1 1 (by decide), h.2.1 2 (by decide), h.2.1 3 (by decide)⟩, h.2.2.1 j hj⟩
theorem QI.bl {A b Q x0 x1 x2 x3 : Nat} {w W : World} (h : QI A b Q x0 x1 x2 x3 w W) : Below w.heap.size w W := h.2.2.2.2.1
theorem QI.sz {A b Q x0 x1 x2 x3 : Nat} {w W : World} (h : QI A b Q x0 x1 x2 x3 w W) : w.heap.size + 4 ≤ W.heap.size := h.2.2.2.2.2
theorem QI.step {A b Q x0 x1 x2 x3 : Nat} {w W W' : World} (h : QI A b Q x0 x1 x2 x3 w W) (hb : Below W.heap.size W W') : QI A b Q x0 x1 x2 x3 w W' := h.up ⟨hb.mono h.sz, Nat.le_trans h.sz hb.size⟩
theorem QI.drew {A b Q x0 x1 x2 x3 : Nat} {w W : World} (h : QI A b Q x0 x1 x2 x3 w W) : QI A b Q x0 x1 x2 x3 w W.drew := h.up (up_drew (up_refl h.sz))

/-- The loop's relation. -/
def QR (A b : Nat) (w : World) (t : Value) (wr : World) : Prop :=
  ∃ (k : Nat) (v : Int), k ≤ 256 ∧ v = (k : Int) - 1 ∧ t = .int .i64 v ∧
    QI A b (A / 2 ^ k / b * 2 ^ k) (limb 0 (A / 2 ^ k % b)) (limb 1 (A / 2 ^ k % b)) (limb 2 (A / 2 ^ k % b)) (limb 3 (A / 2 ^ k % b)) w wr

theorem QR.init {A b : Nat} {w W : World} (hA : A < 2 ^ 256)
    (hW : Up (w.heap.size + 4) ((((w.alloc (.cells #[.int .u64 (limb 0 A : Nat), .int .u64 (limb 1 A : Nat), .int .u64 (limb 2 A : Nat), .int .u64 (limb 3 A : Nat)] 44)).alloc (.cells #[.int .u64 (limb 0 b : Nat), .int .u64 (limb 1 b : Nat), .int .u64 (limb 2 b : Nat), .int .u64 (limb 3 b : Nat)] 44)).alloc (.cells #[.int .u64 0, .int .u64 0, .int .u64 0, .int .u64 0] 44)).alloc (.cells #[.int .u64 0, .int .u64 0, .int .u64 0, .int .u64 0] 44)) W) {v : Int} (hv : v = (bitsN A : Int) - 1) : QR A b w (.int .i64 v) W := by
  refine ⟨bitsN A, v, bitsN_le A, hv, rfl, ?_⟩
  have e : A / 2 ^ bitsN A = 0 := Nat.div_eq_of_lt (bitsN_lt A hA)
  rw [e, Nat.zero_div, Nat.zero_mul, Nat.zero_mod, show limb 0 0 = 0 by rfl, show limb 1 0 = 0 by rfl, show limb 2 0 = 0 by rfl, show limb 3 0 = 0 by rfl]
  refine QI.up ?_ hW
  have b0 := (((Blk.new w #[.int .u64 (limb 0 A : Nat), .int .u64 (limb 1 A : Nat), .int .u64 (limb 2 A : Nat), .int .u64 (limb 3 A : Nat)] 44).alloc (.cells #[.int .u64 (limb 0 b : Nat), .int .u64 (limb 1 b : Nat), .int .u64 (limb 2 b : Nat), .int .u64 (limb 3 b : Nat)] 44)).alloc (.cells #[.int .u64 0, .int .u64 0, .int .u64 0, .int .u64 0] 44)).alloc (.cells #[.int .u64 0, .int .u64 0, .int .u64 0, .int .u64 0] 44)
  generalize hw1 : w.alloc (.cells #[.int .u64 (limb 0 A : Nat), .int .u64 (limb 1 A : Nat), .int .u64 (limb 2 A : Nat), .int .u64 (limb 3 A : Nat)] 44) = w1 at *
  have s1 : w1.heap.size = w.heap.size + 1 := by rw [← hw1, World.size_alloc]
  have b1 := ((Blk.new w1 #[.int .u64 (limb 0 b : Nat), .int .u64 (limb 1 b : Nat), .int .u64 (limb 2 b : Nat), .int .u64 (limb 3 b : Nat)] 44).alloc (.cells #[.int .u64 0, .int .u64 0, .int .u64 0, .int .u64 0] 44)).alloc (.cells #[.int .u64 0, .int .u64 0, .int .u64 0, .int .u64 0] 44)
  generalize hw2 : w1.alloc (.cells #[.int .u64 (limb 0 b : Nat), .int .u64 (limb 1 b : Nat), .int .u64 (limb 2 b : Nat), .int .u64 (limb 3 b : Nat)] 44) = w2 at *
  have s2 : w2.heap.size = w.heap.size + 2 := by rw [← hw2, World.size_alloc, s1]
  have b2 := (Blk.new w2 #[.int .u64 0, .int .u64 0, .int .u64 0, .int .u64 0] 44).alloc (.cells #[.int .u64 0, .int .u64 0, .int .u64 0, .int .u64 0] 44)
  generalize hw3 : w2.alloc (.cells #[.int .u64 0, .int .u64 0, .int .u64 0, .int .u64 0] 44) = w3 at *
  have s3 : w3.heap.size = w.heap.size + 3 := by rw [← hw3, World.size_alloc, s2]
  have b3 := Blk.new w3 #[.int .u64 0, .int .u64 0, .int .u64 0, .int .u64 0] 44
  rw [s1] at b1
  rw [s2] at b2
  rw [s3] at b3
  refine ⟨fun j hj => ?_, fun j hj => ?_, fun j hj => ⟨?_, b2.frozen j⟩, b3, ?_, by rw [World.size_alloc, s3]; omega⟩
  · rw [b0.cell]; rcases (show j = 0 ∨ j = 1 ∨ j = 2 ∨ j = 3 by omega) with rfl | rfl | rfl | rfl <;> rfl
  · rw [b1.cell]; rcases (show j = 0 ∨ j = 1 ∨ j = 2 ∨ j = 3 by omega) with rfl | rfl | rfl | rfl <;> rfl
  · rw [b2.cell]; rcases (show j = 0 ∨ j = 1 ∨ j = 2 ∨ j = 3 by omega) with rfl | rfl | rfl | rfl <;> rfl
  · rw [← hw3, ← hw2, ← hw1]; exact bl_alloc (bl_alloc (bl_alloc (bl_alloc (Below.refl _ _))))

set_option maxHeartbeats 2000000 in
theorem Quot_any (A b : Nat) (hA : A < 2 ^ 256) (hb : b < 2 ^ 256) (hb0 : 0 < b) (w : World) : Calls Try.prog 27 #[wd A, wd b] w fun e w' => e = .returned (.tuple #[wd (A / b), wd (A % b), .int .i64 0]) ∧ Below w.heap.size w w' := by
  have hne : ((limb 0 b : Int) == 0 && ((limb 1 b : Int) == 0 && ((limb 2 b : Int) == 0 && (limb 3 b : Int) == 0))) = false := by
    have hv := val_limbs b hb
    unfold val4 at hv
    simp
    omega
  obtain ⟨L, hL, hL0, hL1, HL⟩ : ∃ L : Nat, bitsN A = L ∧ (0 : Int) ≤ (L : Int) ∧ (L : Int) ≤ 256 ∧ Hid (bitsN A = L) := ⟨_, rfl, by omega, by have := bitsN_le A; omega, rfl⟩
  have cB : ∀ w : World, Calls Try.prog 41 #[wd A] w fun e w' => e = .returned (.int .i64 (L : Nat)) ∧ Below w.heap.size w w' := fun w => by rw [← HL.out]; exact Bits_any A w
  go_enter Try.func27, Try.ntmps27
  go_wp2_with (with_reducible refine (cB _).mono ?_; rintro e W0 ⟨rfl, hB0⟩)
  go_loopw [7] (fun t wr => QR A b w t wr) (fun t _ => (intOf t + 1).toNat)
  case atStart =>
    refine QR.init hA ⟨hB0.mono (by simp), ?_⟩ (by rw [HL.out])
    have := hB0.size
    simpa using this
  case round =>
    clear hB0 cB HL hL0 hL1 hL hne
    obtain ⟨k, v, hk, hv, rfl, hQ⟩ := hrel
    rcases (show k = 0 ∨ ∃ n, k = n + 1 by cases k with | zero => exact Or.inl rfl | succ n => exact Or.inr ⟨n, rfl⟩) with rfl | ⟨n, rfl⟩
    · obtain rfl : v = -1 := by omega
      clear hv hk
      simp only [Nat.pow_zero, Nat.div_one, Nat.mul_one] at hQ
      obtain ⟨ha, hbb, hq, hr, hB, hsz⟩ := hQ
      have q0 := hq 0 (by decide)
      have q1 := hq 1 (by decide)
      have q2 := hq 2 (by decide)
      have q3 := hq 3 (by decide)
      obtain ⟨q0, q0'⟩ := q0
      obtain ⟨q1, q1'⟩ := q1
      obtain ⟨q2, q2'⟩ := q2
      obtain ⟨q3, q3'⟩ := q3
      have r0 : wr.cell? ⟨w.heap.size + 3, 0, none⟩ = some (.int .u64 (limb 0 (A % b) : Nat)) := hr.cell 0
      have r1 : wr.cell? ⟨w.heap.size + 3, 1, none⟩ = some (.int .u64 (limb 1 (A % b) : Nat)) := hr.cell 1
      have r2 : wr.cell? ⟨w.heap.size + 3, 2, none⟩ = some (.int .u64 (limb 2 (A % b) : Nat)) := hr.cell 2
      have r3 : wr.cell? ⟨w.heap.size + 3, 3, none⟩ = some (.int .u64 (limb 3 (A % b) : Nat)) := hr.cell 3
      have f0 := hr.frozen 0
      have f1 := hr.frozen 1
      have f2 := hr.frozen 2
      have f3 := hr.frozen 3
      go_wp2_with fail
      go_region
      go_wp2_with fail
      refine bodyPost_ret (v := .tuple #[.agg #[.int .u64 (limb 0 (A / b) : Nat), .int .u64 (limb 1 (A / b) : Nat), .int .u64 (limb 2 (A / b) : Nat), .int .u64 (limb 3 (A / b) : Nat)], .agg #[.int .u64 (limb 0 (A % b) : Nat), .int .u64 (limb 1 (A % b) : Nat), .int .u64 (limb 2 (A % b) : Nat), .int .u64 (limb 3 (A % b) : Nat)], .int .i64 0]) (by simp [results, *, Try.results27, go_sem]) rfl ⟨rfl, ?_⟩
      repeat (first | with_reducible exact hB | with_reducible refine bl_set (by first | (simp; done) | (simp; omega)) ?_ | with_reducible refine bl_drew ?_)
    · obtain rfl : v = (n : Int) := by omega
      have hn : n < 256 := by omega
      clear hv hk
      have n0 : (0 : Int) ≤ (n : Int) := by omega
      have n1 : (n : Int) ≤ 255 := by omega
      obtain ⟨j, e1, j0, j1, hj, HJ⟩ : ∃ j : Nat, (n : Int).tdiv 64 = (j : Int) ∧ (0 : Int) ≤ (j : Int) ∧ (j : Int) < 4 ∧ j < 4 ∧ Hid (n / 64 = j) := ⟨n / 64, by rw [Int.tdiv_eq_ediv_of_nonneg n0]; omega, by omega, by omega, by omega, rfl⟩
      obtain ⟨m, e2, m0, m1, HM⟩ : ∃ m : Nat, (n : Int).tmod 64 = (m : Int) ∧ (0 : Int) ≤ (m : Int) ∧ (m : Int) < 64 ∧ Hid (n % 64 = m) := ⟨n % 64, by rw [Int.tmod_eq_emod_of_nonneg n0]; omega, by omega, by omega, rfl⟩
      obtain ⟨R, HR⟩ : ∃ R, Hid (A / 2 ^ (n + 1) % b = R) := ⟨_, rfl⟩
      obtain ⟨Q, HQ⟩ : ∃ Q, Hid (A / 2 ^ (n + 1) / b * 2 ^ (n + 1) = Q) := ⟨_, rfl⟩
      rw [HR.out, HQ.out] at hQ
      have hR : R < b := by rw [← HR.out]; exact Nat.mod_lt _ hb0
      obtain ⟨x0, X0⟩ : ∃ x, Hid (limb 0 R = x) := ⟨_, rfl⟩
      obtain ⟨x1, X1⟩ : ∃ x, Hid (limb 1 R = x) := ⟨_, rfl⟩
      obtain ⟨x2, X2⟩ : ∃ x, Hid (limb 2 R = x) := ⟨_, rfl⟩
      obtain ⟨x3, X3⟩ : ∃ x, Hid (limb 3 R = x) := ⟨_, rfl⟩
      obtain ⟨S, HS⟩ : ∃ S, Hid (2 * R % 2 ^ 256 = S) := ⟨2 * R % 2 ^ 256, Lib.hid rfl⟩
      obtain ⟨s0, S0⟩ : ∃ x, Hid (limb 0 S = x) := ⟨_, rfl⟩
      obtain ⟨s1, S1⟩ : ∃ x, Hid (limb 1 S = x) := ⟨_, rfl⟩
      obtain ⟨s2, S2⟩ : ∃ x, Hid (limb 2 S = x) := ⟨_, rfl⟩
      obtain ⟨s3, S3⟩ : ∃ x, Hid (limb 3 S = x) := ⟨_, rfl⟩
      rw [X0.out, X1.out, X2.out, X3.out] at hQ
      have cS : ∀ w : World, Calls Try.prog 34 #[.agg #[.int .u64 (x0 : Nat), .int .u64 (x1 : Nat), .int .u64 (x2 : Nat), .int .u64 (x3 : Nat)], .int .i64 1] w fun e w' => e = .returned (.agg #[.int .u64 (s0 : Nat), .int .u64 (s1 : Nat), .int .u64 (s2 : Nat), .int .u64 (s3 : Nat)]) ∧ Below w.heap.size w w' := fun w => by
        rw [← X0.out, ← X1.out, ← X2.out, ← X3.out, ← S0.out, ← S1.out, ← S2.out, ← S3.out, ← HS.out, ← shift_one R]
        exact Shift_any R 1 (by omega) w
      obtain ⟨bt, hbt, bt1, HBT⟩ : ∃ x : Nat, bits .and .u64 ((limb j A : Int) / 2 ^ m) 1 = (x : Int) ∧ x ≤ 1 ∧ Hid (x = A / 2 ^ n % 2) := by
        have hl := limb_lt j A
        have hd : limb j A / 2 ^ m ≤ limb j A := Nat.div_le_self _ _
        refine ⟨A / 2 ^ n % 2, ?_, by omega, rfl⟩
        rw [show ((limb j A : Int) / 2 ^ m) = ((limb j A / 2 ^ m : Nat) : Int) by simp, and_one _ (by omega), ← limb_bit A n, HJ.out, HM.out]
      have hlow := low_bit S bt (by rw [← HS.out]; omega) bt1
      obtain ⟨y0, hy0, HY0⟩ : ∃ x : Nat, bits .or .u64 (s0 : Int) (bt : Int) = (x : Int) ∧ Hid (limb 0 (S + bt) = x) := by
        refine ⟨_, ?_, rfl⟩
        rw [hlow.1, ← S0.out]
        exact or_disj _ _ 1 (by decide) (limb_lt _ _) hlow.2.2.2.2 (by omega)
      have hS1 : limb 1 (S + bt) = s1 := hlow.2.1.trans S1.out
      have hS2 : limb 2 (S + bt) = s2 := hlow.2.2.1.trans S2.out
      have hS3 : limb 3 (S + bt) = s3 := hlow.2.2.2.1.trans S3.out
      have HS1 : Hid (limb 1 (S + bt) = s1 ∧ limb 2 (S + bt) = s2 ∧ limb 3 (S + bt) = s3) := ⟨hS1, hS2, hS3⟩
      clear hS1 hS2 hS3 hlow
      have hqr := quot_round hb HR.out hR HS.out HBT.out
      obtain ⟨c, hc⟩ : ∃ c, cmpN (S + bt) b = c := ⟨_, rfl⟩
      have cC : ∀ w : World, Calls Try.prog 23 #[.agg #[.int .u64 (y0 : Nat), .int .u64 (s1 : Nat), .int .u64 (s2 : Nat), .int .u64 (s3 : Nat)], wd b] w fun e w' => e = .returned (.int .i64 c) ∧ Below w.heap.size w w' := fun w => by
        rw [← HY0.out, ← HS1.out.1, ← HS1.out.2.1, ← HS1.out.2.2, ← hc]
        exact Cmp_any (S + bt) b hqr.1 hb w
      obtain ⟨D, HD⟩ : ∃ D, Hid ((S + bt + 2 ^ 256 - b) % 2 ^ 256 = D) := ⟨(S + bt + 2 ^ 256 - b) % 2 ^ 256, Lib.hid rfl⟩
      obtain ⟨d0, D0⟩ : ∃ x, Hid (limb 0 D = x) := ⟨_, rfl⟩
      obtain ⟨d1, D1⟩ : ∃ x, Hid (limb 1 D = x) := ⟨_, rfl⟩
      obtain ⟨d2, D2⟩ : ∃ x, Hid (limb 2 D = x) := ⟨_, rfl⟩
      obtain ⟨d3, D3⟩ : ∃ x, Hid (limb 3 D = x) := ⟨_, rfl⟩
      obtain ⟨bw, hbw⟩ : ∃ bw : Bool, Hid (decide (S + bt < b) = bw) := ⟨_, rfl⟩
      have cD : ∀ w : World, Calls Try.prog 42 #[.agg #[.int .u64 (y0 : Nat), .int .u64 (s1 : Nat), .int .u64 (s2 : Nat), .int .u64 (s3 : Nat)], wd b] w fun e w' => e = .returned (.tuple #[.agg #[.int .u64 (d0 : Nat), .int .u64 (d1 : Nat), .int .u64 (d2 : Nat), .int .u64 (d3 : Nat)], .bool bw]) ∧ Below w.heap.size w w' := fun w => by
        rw [← HY0.out, ← HS1.out.1, ← HS1.out.2.1, ← HS1.out.2.2, ← D0.out, ← D1.out, ← D2.out, ← D3.out, ← HD.out, ← hbw.out]
        exact Sub_any (S + bt) b hqr.1 hb w
      have Hn := Lib.hid hn
      clear hn
      obtain ⟨lq, HLQ⟩ : ∃ l, Hid (limb j Q = l) := ⟨_, rfl⟩
      have hqq := quot_q lq HJ.out HM.out (by rw [HQ.out]; exact HLQ.out)
      obtain ⟨p, hp, HP⟩ : ∃ p : Nat, IntKind.u64.wrap (2 ^ m) = (p : Int) ∧ Hid (p = 2 ^ m) := by
        refine ⟨2 ^ m, ?_, rfl⟩
        have h := shl_pow 1 m
        rw [show ((1 : Nat) : Int) * 2 ^ m = 2 ^ m by simp, Nat.one_mul, Nat.mod_eq_of_lt (Nat.pow_lt_pow_right (by decide) (by omega))] at h
        exact h
      obtain ⟨z, hz, HZ⟩ : ∃ z : Nat, bits .or .u64 (lq : Int) (p : Int) = (z : Int) ∧ Hid (lq + 2 ^ m = z) := by
        refine ⟨_, ?_, rfl⟩
        rw [HP.out]
        exact or_disj _ _ (m + 1) (by omega) hqq.1 hqq.2.1 (Nat.pow_lt_pow_right (by decide) (by omega))
      have HQQ := Lib.hid hqq
      have HQR := Lib.hid hqr
      have HRl := Lib.hid hR
      have HC := Lib.hid hc
      clear hqq hqr hR hc
      have hv1 : IntKind.i64.wrap ((n : Int) - 1) = (n : Int) - 1 := IntWalk.i64_in _ (by omega)
      obtain ⟨⟨r0, r1, r2, r3⟩, -, -, -, -⟩ := hQ.facts j hj
      -- the three ways
      have hov3 := limb3_over R (by have := HRl.out; omega)
      rw [X3.out] at hov3
      rcases (show ((x3 : Int) / 9223372036854775808 != 0) = true ∨ ((x3 : Int) / 9223372036854775808 != 0) = false by cases ((x3 : Int) / 9223372036854775808 != 0) <;> simp) with hov | hov
      · have HG : Hid (2 ^ 255 ≤ R ∨ b ≤ S + bt) := Lib.hid (Or.inl (by
          by_cases cc : 2 ^ 255 ≤ R
          · exact cc
          · rw [if_neg cc] at hov3
            simp at hov
            omega))
        clear hov3
        go_wp2_with (with_reducible refine (cS _).mono ?_; rintro e W1 ⟨rfl, hb1⟩; have hQ1 := hQ.step hb1; obtain ⟨⟨g0, g1, g2, g3⟩, ⟨f0, f1, f2, f3⟩, ga, ⟨b0, b1, b2, b3⟩, -, -⟩ := hQ1.facts j hj)
        have hQ2 := hQ1.setR s0 s1 s2 s3
        go_region
        go_wp2_with (with_reducible refine (cD _).mono ?_; rintro e W4 ⟨rfl, hb4⟩; have hQ4 := ((hQ2.setR0 y0).drew).step hb4; obtain ⟨⟨i0, i1, i2, i3⟩, ⟨h0, h1, h2, h3⟩, -, -, iq, hq'⟩ := hQ4.facts j hj; rw [HLQ.out] at iq)
        have hQ5 := hQ4.setR d0 d1 d2 d3
        go_region
        go_wp2_with fail
        go_roundw
        case rel =>
          refine ⟨n, (n : Int) - 1, by have := Hn.out; omega, rfl, rfl, ?_⟩
          have hs := HQR.out.2.1 HG.out
          rw [hs.1, hs.2, HD.out, D0.out, D1.out, D2.out, D3.out]
          exact (hQ5.setQ _ j z hj (HZ.out.symm.trans HQQ.out.2.2.2.1) (fun j' h => (HQQ.out.2.2.2.2 j' h).trans (by rw [HQ.out]))).drew
        case measure => simp [intOf]
      · have HR5 : Hid (R < 2 ^ 255) := Lib.hid (by
          by_cases cc : 2 ^ 255 ≤ R
          · rw [if_pos cc] at hov3
            simp at hov
            omega
          · omega)
        clear hov3
        by_cases hge : 0 ≤ c
        · have HG : Hid (2 ^ 255 ≤ R ∨ b ≤ S + bt) := Lib.hid (Or.inr (by
            have h := HC.out
            unfold cmpN at h
            by_cases h1 : S + bt < b
            · rw [if_pos h1] at h; omega
            · omega))
          go_wp2_with (with_reducible refine (cS _).mono ?_; rintro e W1 ⟨rfl, hb1⟩; have hQ1 := hQ.step hb1; obtain ⟨⟨g0, g1, g2, g3⟩, ⟨f0, f1, f2, f3⟩, ga, ⟨b0, b1, b2, b3⟩, -, -⟩ := hQ1.facts j hj)
          have hQ2 := hQ1.setR s0 s1 s2 s3
          go_region
          go_wp2_with (first | (with_reducible refine (cC _).mono ?_; rintro e W3 ⟨rfl, hb3⟩; have hQ3 := ((hQ2.setR0 y0).drew).step hb3; obtain ⟨⟨k0, k1, k2, k3⟩, -, -, ⟨l0, l1, l2, l3⟩, -, -⟩ := hQ3.facts j hj) | (with_reducible refine (cD _).mono ?_; rintro e W4 ⟨rfl, hb4⟩; have hQ4 := hQ3.step hb4; obtain ⟨⟨i0, i1, i2, i3⟩, ⟨h0, h1, h2, h3⟩, -, -, iq, hq'⟩ := hQ4.facts j hj; rw [HLQ.out] at iq))
          have hQ5 := hQ4.setR d0 d1 d2 d3
          go_region
          go_wp2_with fail
          go_roundw
          case rel =>
            refine ⟨n, (n : Int) - 1, by have := Hn.out; omega, rfl, rfl, ?_⟩
            have hs := HQR.out.2.1 HG.out
            rw [hs.1, hs.2, HD.out, D0.out, D1.out, D2.out, D3.out]
            exact (hQ5.setQ _ j z hj (HZ.out.symm.trans HQQ.out.2.2.2.1) (fun j' h => (HQQ.out.2.2.2.2 j' h).trans (by rw [HQ.out]))).drew
          case measure => simp [intOf]
        · have HG : Hid (S + bt < b) := Lib.hid (by
            have h := HC.out
            unfold cmpN at h
            by_cases h1 : S + bt < b
            · exact h1
            · rw [if_neg h1] at h; split at h <;> omega)
          go_wp2_with (with_reducible refine (cS _).mono ?_; rintro e W1 ⟨rfl, hb1⟩; have hQ1 := hQ.step hb1; obtain ⟨⟨g0, g1, g2, g3⟩, ⟨f0, f1, f2, f3⟩, ga, ⟨b0, b1, b2, b3⟩, -, -⟩ := hQ1.facts j hj)
          have hQ2 := hQ1.setR s0 s1 s2 s3
          go_region
          go_wp2_with (with_reducible refine (cC _).mono ?_; rintro e W3 ⟨rfl, hb3⟩; have hQ3 := ((hQ2.setR0 y0).drew).step hb3)
          go_roundw
          case rel =>
            refine ⟨n, (n : Int) - 1, by have := Hn.out; omega, rfl, rfl, ?_⟩
            have hs := HQR.out.2.2 HR5.out HG.out
            rw [hs.1, hs.2, HY0.out, HS1.out.1, HS1.out.2.1, HS1.out.2.2]
            rw [show 2 * (A / 2 ^ (n + 1) / b) * 2 ^ n = Q by rw [← HQ.out, Nat.pow_succ, Nat.mul_assoc, Nat.mul_left_comm, Nat.mul_comm 2 (2 ^ n)]]
            exact hQ3
          case measure => simp [intOf]
end Go.Proofs.Ytcfpgcejahfdfaa

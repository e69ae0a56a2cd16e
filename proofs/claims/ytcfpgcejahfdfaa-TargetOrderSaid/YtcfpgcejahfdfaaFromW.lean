/- The walk of wide.From. -/
import Derived.Test.YtcfpgcejahfdfaaWideS
namespace Go.Proofs.Ytcfpgcejahfdfaa
open Go.RowKit
set_option linter.unusedVariables false
set_option linter.unusedSimpArgs false

/-- A word out of bytes, behind k of them. -/
def fw (b : Nat → Nat) (i : Nat) : Nat → Nat
  | 0 => 0
  | k + 1 => fw b i k ||| (b (8 * i + k) * 2 ^ (8 * k) % 2 ^ 64)

theorem fw_lt (b : Nat → Nat) (i k : Nat) : fw b i k < 2 ^ 64 := by
  induction k with
  | zero => exact Nat.two_pow_pos 64
  | succ k ih => exact Nat.or_lt_two_pow ih (Nat.mod_lt _ (by decide))

/-- The number of 32 bytes. -/
def fromN (b : Nat → Nat) : Nat := val4 (fw b 0 8) (fw b 1 8) (fw b 2 8) (fw b 3 8)

theorem fromN_lt (b : Nat → Nat) : fromN b < 2 ^ 256 := val_lt _ _ _ _ (fw_lt _ _ _) (fw_lt _ _ _) (fw_lt _ _ _) (fw_lt _ _ _)

/-- How many bytes of word j are in, at byte k of word i. -/
def fk (i k j : Nat) : Nat := if j < i then 8 else if j = i then k else 0

/-- What lies in memory in From's loops. -/
def FI (b : Nat → Nat) (w : World) (i k : Nat) (W : World) : Prop :=
  (∀ j, j < 32 → W.cell? ⟨w.heap.size, j, none⟩ = some (.int .u8 (b j : Nat))) ∧
  (∀ j, j < 4 → W.cell? ⟨w.heap.size + 1, j, none⟩ = some (.int .u64 (fw b j (fk i k j) : Nat)) ∧ W.frozen? ⟨w.heap.size + 1, j, none⟩ = false) ∧ Below w.heap.size w W ∧ w.heap.size + 2 ≤ W.heap.size

theorem FI.next {b : Nat → Nat} {w W : World} {i k y : Nat} (h : FI b w i k W) (hi : i < 4) (hy : y = fw b i (k + 1)) :
    FI b w i (k + 1) (W.setCell ⟨w.heap.size + 1, i, none⟩ (.int .u64 (y : Nat))).drew := by
  obtain ⟨ha, hq, hB, hs⟩ := h
  have u : Up (w.heap.size + 1) W (W.setCell ⟨w.heap.size + 1, i, none⟩ (.int .u64 (y : Nat))) := up_set (Nat.le_refl _) (up_refl (by omega))
  refine ⟨fun j hj => u.cell (ha j hj) (by simp), fun j hj => ⟨?_, ?_⟩, (hB.trans (u.1.mono (by omega))).drew, by show _ ≤ (World.setCell _ _ _).heap.size; rw [World.size_setCell]; exact hs⟩
  · show (World.setCell _ _ _).cell? _ = _
    by_cases e : j = i
    · subst e
      rw [hy, World.cell?_setCell_same _ _ _ (hq _ hj).1]
      simp [fk]
    · rw [World.cell?_setCell_other _ _ _ _ (by intro c; exact e (by injection c with _ c2; exact c2.symm)), (hq j hj).1]
      simp [fk, e]
  · show (World.setCell _ _ _).frozen? _ = _
    rw [World.frozen?_setCell]; exact (hq j hj).2

theorem FI.turn {b : Nat → Nat} {w W : World} {i : Nat} (h : FI b w i 8 W) : FI b w (i + 1) 0 W := by
  obtain ⟨ha, hq, hB, hs⟩ := h
  refine ⟨ha, fun j hj => ⟨?_, (hq j hj).2⟩, hB, hs⟩
  rw [(hq j hj).1]
  have : fk i 8 j = fk (i + 1) 0 j := by
    unfold fk
    by_cases c1 : j < i
    · rw [if_pos c1, if_pos (by omega)]
    · by_cases c2 : j = i
      · rw [if_neg c1, if_pos c2, if_pos (by omega)]
      · rw [if_neg c1, if_neg c2, if_neg (by omega)]; simp
  rw [this]

set_option maxHeartbeats 2000000 in
theorem From_any (b : Nat → Nat) (H : Array Value) (hH : ∀ j, j < 32 → H[j]? = some (.int .u8 (b j : Nat))) (hb : ∀ j, b j < 256) (w : World) : Calls Try.prog 39 #[.agg H] w fun e w' => e = .returned (wd (fromN b)) ∧ Below w.heap.size w w' := by
  have HH := Lib.hid hH
  have Hb := Lib.hid hb
  clear hH hb
  go_enter Try.func39, Try.ntmps39
  go_wp2_with fail
  go_loopw [5] (fun t wr => ∃ i : Nat, i ≤ 4 ∧ t = .int .i64 (i : Int) ∧ FI b w i 0 wr) (fun t _ => (4 - intOf t).toNat)
  case atStart =>
    refine ⟨0, by omega, rfl, fun j hj => ?_, fun j hj => ⟨?_, ?_⟩, bl_alloc (bl_alloc (Below.refl _ _)), by simp⟩
    · have := ((Blk.new w H 42).alloc (.cells #[.int .u64 0, .int .u64 0, .int .u64 0, .int .u64 0] 44)).cell j
      rw [this]; exact HH.out j hj
    · have := (Blk.new (w.alloc (.cells H 42)) #[.int .u64 0, .int .u64 0, .int .u64 0, .int .u64 0] 44).cell j
      rw [World.size_alloc] at this
      rw [this]; rcases (show j = 0 ∨ j = 1 ∨ j = 2 ∨ j = 3 by omega) with rfl | rfl | rfl | rfl <;> rfl
    · have := (Blk.new (w.alloc (.cells H 42)) #[.int .u64 0, .int .u64 0, .int .u64 0, .int .u64 0] 44).frozen j
      rw [World.size_alloc] at this
      exact this
  case round =>
    obtain ⟨i, hi, rfl, hF⟩ := hrel
    by_cases h4 : i = 4
    · subst h4
      obtain ⟨ha, hq, hB, hsz⟩ := hF
      obtain ⟨q0, f0⟩ := hq 0 (by decide)
      obtain ⟨q1, f1⟩ := hq 1 (by decide)
      obtain ⟨q2, f2⟩ := hq 2 (by decide)
      obtain ⟨q3, f3⟩ := hq 3 (by decide)
      rw [show fk 4 0 0 = 8 by decide] at q0
      rw [show fk 4 0 1 = 8 by decide] at q1
      rw [show fk 4 0 2 = 8 by decide] at q2
      rw [show fk 4 0 3 = 8 by decide] at q3
      clear ha hq
      go_wp2_with fail
      refine bodyPost_ret (v := .agg #[.int .u64 (fw b 0 8 : Nat), .int .u64 (fw b 1 8 : Nat), .int .u64 (fw b 2 8 : Nat), .int .u64 (fw b 3 8 : Nat)]) (by simp [results, *, Try.results39, go_sem]) rfl ⟨by rw [wd_val _ _ _ _ (fw_lt _ _ _) (fw_lt _ _ _) (fw_lt _ _ _) (fw_lt _ _ _)]; rfl, ?_⟩
      repeat (first | with_reducible exact hB | with_reducible refine bl_set (by first | (simp; done) | (simp; omega)) ?_ | with_reducible refine bl_drew ?_)
    · have i0 : (0 : Int) ≤ (i : Int) := by omega
      have i1 : (i : Int) < 4 := by omega
      have Hi := Lib.hid hi
      have H4 := Lib.hid h4
      clear hi h4
      go_wp2_with fail
      go_loopw [8] (fun t wr => ∃ k : Nat, k ≤ 8 ∧ t = .int .i64 (k : Int) ∧ FI b w i k wr) (fun t _ => (8 - intOf t).toNat)
      case atStart => exact ⟨0, by omega, rfl, hF⟩
      case round =>
        obtain ⟨k, hk, rfl, hG⟩ := hrel
        by_cases h8 : k = 8
        · subst h8
          go_wp2_with fail
          go_roundw
          case rel => exact ⟨i + 1, by have := Hi.out; have := H4.out; omega, by simp, hG.turn⟩
          case measure => simp [intOf]; omega
        · have k0 : (0 : Int) ≤ (k : Int) := by omega
          have k1 : (k : Int) < 8 := by omega
          have hi4 : i < 4 := by omega
          have hw : ∀ x : Int, -2000 ≤ x → x ≤ 2000 → IntKind.i64.wrap x = x := fun x a b => IntWalk.i64_in x (by omega)
          obtain ⟨e, he, e0, e1, HE⟩ : ∃ e : Nat, IntKind.i64.wrap (8 * (i : Int)) = (e : Int) ∧ (0 : Int) ≤ (e : Int) ∧ (e : Int) ≤ 24 ∧ Hid (8 * i = e) := ⟨8 * i, by rw [hw _ (by omega) (by omega)]; omega, by omega, by omega, rfl⟩
          obtain ⟨x, hx, x0, x1, HX⟩ : ∃ x : Nat, IntKind.i64.wrap ((e : Int) + (k : Int)) = (x : Int) ∧ (0 : Int) ≤ (x : Int) ∧ (x : Int) < 32 ∧ Hid (8 * i + k = x) := ⟨e + k, by rw [hw _ (by omega) (by omega)]; omega, by omega, by have := HE.out; omega, by unfold Hid; have := HE.out; omega⟩
          obtain ⟨s, hs, s0, s1, HS⟩ : ∃ s : Nat, IntKind.i64.wrap (8 * (k : Int)) = (s : Int) ∧ (0 : Int) ≤ (s : Int) ∧ (s : Int) < 64 ∧ Hid (8 * k = s) := ⟨8 * k, by rw [hw _ (by omega) (by omega)]; omega, by omega, by omega, rfl⟩
          obtain ⟨c, HC⟩ : ∃ c, Hid (b x = c) := ⟨_, rfl⟩
          have c0 : (0 : Int) ≤ (c : Int) := by omega
          have c1 : (c : Int) < 256 := by have := Hb.out x; rw [HC.out] at this; omega
          obtain ⟨f, HFF⟩ : ∃ f, Hid (fw b i k = f) := ⟨_, rfl⟩
          obtain ⟨p, hp, HP⟩ : ∃ p : Nat, IntKind.u64.wrap ((c : Int) * 2 ^ s) = (p : Int) ∧ Hid (c * 2 ^ s % 2 ^ 64 = p) := ⟨_, shl_pow c s, rfl⟩
          obtain ⟨g, hg, HGG⟩ : ∃ g : Nat, bits .or .u64 (f : Int) (p : Int) = (g : Int) ∧ Hid (g = fw b i (k + 1)) := by
            refine ⟨f ||| p, ?_, ?_⟩
            · exact u64_or_nat f p (by rw [← HFF.out]; exact fw_lt _ _ _) (by rw [← HP.out]; exact Nat.mod_lt _ (by decide))
            · unfold Hid; rw [fw, HX.out, HC.out, HS.out, HP.out, HFF.out]
          have hcx := hG.1 x (by omega)
          rw [HC.out] at hcx
          obtain ⟨hci, hfi⟩ := hG.2.1 i hi4
          rw [show fk i k i = k by simp [fk], HFF.out] at hci
          have Hk := Lib.hid hk
          have H8 := Lib.hid h8
          have Hi4 := Lib.hid hi4
          clear hk h8 hi4 hw
          go_wp2_with fail
          go_region
          go_wp2_with fail
          go_roundw
          case rel => exact ⟨k + 1, by have := Hk.out; have := H8.out; omega, by simp, hG.next Hi4.out HGG.out⟩
          case measure => simp [intOf]; omega
end Go.Proofs.Ytcfpgcejahfdfaa

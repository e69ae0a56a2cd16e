/- The law's own words of package need: cut, works. -/
import Derived.Test.YtcfpgcejahfdfabNeedW
namespace Go.Proofs.Ytcfpgcejahfdfab
open Go.RowKit Go.Maps Go.Shelf
attribute [local go_sem] Oper.semAt_some
set_option linter.unusedVariables false
set_option linter.unusedSimpArgs false

/-- Two rising lists of the same members are one. -/
theorem rising_one {xs ys : List Nat} (hx : xs.Pairwise (· < ·)) (hy : ys.Pairwise (· < ·)) (h : ∀ x, x ∈ xs ↔ x ∈ ys) : xs = ys := by
  have px : xs.Nodup := hx.imp (fun h => by omega)
  have py : ys.Nodup := hy.imp (fun h => by omega)
  refine List.Perm.eq_of_pairwise (le := fun a b => a < b) (by intro a b _ _ h1 h2; omega) hx hy ((List.perm_ext_iff_of_nodup px py).2 h)

theorem ArgAt.lit (w : World) (xs : List Nat) (hl : xs.length ≤ 9223372036854775807) : ArgAt (w.alloc (.cells (xs.map uv).toArray 22)) (.slice (some ⟨w.heap.size, 0, none⟩) xs.length xs.length) xs := by
  refine .inr ⟨_, 0, _, rfl, by simp, hl, fun j x hx => ?_⟩
  rw [Nat.zero_add, (Blk.new w (xs.map uv).toArray 22).cell j]
  simp [hx]

theorem fine1 : Fine 7 [0, 3, 4] := ⟨by decide, ⟨by decide, by decide⟩, by unfold WaysOk; decide⟩
theorem fine2 : Fine 7 [0, 1] := ⟨by decide, ⟨by decide, by decide⟩, by unfold WaysOk; decide⟩
theorem need1 : needL 7 [0, 3, 4] = [1, 2, 5] := by decide
theorem moved1 : movedN 7 [0, 1] 2 = 8 := by decide
theorem gone1 : goneB 7 [0, 1] 2 = false := by decide
theorem tree1 : treeOk 7 2 = true := by decide

theorem ownsRow_three {W : World} {base : Nat} {v : Value} {x y z : Value} (h : W.ownsRow base 22 1 v 3 [x, y, z]) : ∃ g cap, v = .slice (some ⟨g, 0, none⟩) 3 cap ∧ g < W.heap.size ∧ W.cell? ⟨g, 0, none⟩ = some x ∧ W.cell? ⟨g, 1, none⟩ = some y ∧ W.cell? ⟨g, 2, none⟩ = some z := by
  have h0 := h
  obtain ⟨h1, ⟨rfl, hz⟩ | ⟨g, cap, cur, rfl, hg, hh, r⟩⟩ := h
  · cases hz
  · refine ⟨g, cap, rfl, (Array.getElem?_eq_some_iff.1 hh).1, ?_, ?_, ?_⟩
    · simpa using h0.cellAt 0 (by decide)
    · simpa using h0.cellAt 1 (by decide)
    · simpa using h0.cellAt 2 (by decide)

set_option maxRecDepth 100000 in
set_option maxHeartbeats 2000000 in
theorem works_any (w : World) : Calls Try.prog 14 #[] w fun e W => e = .returned (.bool true) ∧ Below w.heap.size w W := by
  have cN : ∀ w v, ArgAt w v [0, 3, 4] → Calls Try.prog 13 #[.int .u64 7, v] w fun e W => ∃ g cap, e = .returned (.tuple #[.slice (some ⟨g, 0, none⟩) 3 cap, .int .i64 0]) ∧ g < W.heap.size ∧ W.cell? ⟨g, 0, none⟩ = some (.int .u64 1) ∧ W.cell? ⟨g, 1, none⟩ = some (.int .u64 2) ∧ W.cell? ⟨g, 2, none⟩ = some (.int .u64 5) ∧ Below w.heap.size w W := fun w v hv => by
    refine (Need_any 12 sort_small 7 [0, 3, 4] v w (by decide) (by decide) (by decide) hv (fun xs h1 h2 h3 => ?_)).mono ?_
    · have : xs.Perm [1, 2, 5] := (List.perm_ext_iff_of_nodup h1 (by decide)).2 (by rw [← need1]; exact h2)
      rw [this.length_eq]; decide
    · rintro e W (⟨h, _⟩ | ⟨_, ks, v, ⟨hk1, hk2⟩, rfl, hrow, hb⟩)
      · exact absurd fine1 h
      · have : ks = [1, 2, 5] := rising_one hk1 (by decide) (by rw [← need1]; exact hk2)
        subst this
        obtain ⟨g, cap, rfl, hg, c0, c1, c2⟩ := ownsRow_three hrow
        exact ⟨g, cap, rfl, hg, c0, c1, c2, hb⟩
  have cM : ∀ w v, ArgAt w v [0, 1] → Calls Try.prog 22 #[.int .u64 7, v, .int .u64 2] w fun e W => e = .returned (.tuple #[.int .u64 8, .bool true, .int .i64 0]) ∧ Below w.heap.size w W := fun w v hv => by
    refine (Moved_any 7 [0, 1] 2 v w (by decide) (by decide) (by decide) (by decide) hv).mono ?_
    rintro e W ⟨⟨h, _⟩ | ⟨_, _, h, _⟩ | ⟨_, _, _, h⟩, hb⟩
    · exact absurd ⟨fine2, tree1⟩ h
    · rw [gone1] at h; cases h
    · rw [moved1] at h; exact ⟨h, hb⟩
  have s1 : ∀ w : World, ArgAt (w.alloc (.cells #[.int .u64 0, .int .u64 3, .int .u64 4] 22)) (.slice (some ⟨w.heap.size, 0, none⟩) 3 3) [0, 3, 4] := fun w => ArgAt.lit w [0, 3, 4] (by decide)
  have s2 : ∀ w : World, ArgAt (w.alloc (.cells #[.int .u64 0, .int .u64 1] 22)) (.slice (some ⟨w.heap.size, 0, none⟩) 2 2) [0, 1] := fun w => ArgAt.lit w [0, 1] (by decide)
  go_enter Try.func14, Try.ntmps14
  go_wp2_with (first
    | ((with_reducible refine (cN _ _ (s1 _)).mono ?_); rintro e W1 ⟨g, cap, rfl, hg, c0, c1, c2, hb1⟩)
    | ((with_reducible refine (cM _ _ (s2 _)).mono ?_); rintro e W2 ⟨rfl, hb2⟩; have hc2 := fun a h => hb2.cell (p := a) h))
  go_ret
  exact ⟨rfl, bl_step (bl_alloc (bl_step (bl_alloc (Below.refl _ _)) hb1)) hb2⟩

set_option maxHeartbeats 1000000 in
theorem cut_any (a : Option Addr) (cap : Nat) (ts : List Nat) (w : World) (hv : ArgAt w (.slice a ts.length cap) ts) (hc : ts.length ≤ cap) (hl : ts.length ≤ 9223372036854775807) :
    Calls Try.prog 19 #[.slice a ts.length cap] w fun e W => (∃ v, e = .returned v ∧ ArgAt w v (ts.take 20)) ∧ W = w := by
  by_cases h : ts.length ≤ 20
  · have h2 : min (ts.length : Int) 20 = (ts.length : Nat) := by omega
    have e : ts.take 20 = ts := List.take_of_length_le h
    rw [e]
    have hi : (ts.length : Int) ≤ 20 := by omega
    have hci : (ts.length : Int) ≤ (cap : Int) := by omega
    go_enter Try.func19, Try.ntmps19
    go_wp2
    go_ret
    exact ⟨⟨_, rfl, hv⟩, rfl⟩
  · have h2 : min (ts.length : Int) 20 = 20 := by omega
    have hi : ¬ (ts.length : Int) ≤ 20 := by omega
    have hci : (20 : Int) ≤ (cap : Int) := by omega
    go_enter Try.func19, Try.ntmps19
    go_wp2
    go_ret
    refine ⟨⟨_, rfl, ?_⟩, rfl⟩
    rcases hv with ⟨_, _, _, h0⟩ | ⟨g, off, cap', e, hg, _, hcell⟩
    · rw [h0] at h; simp at h
    · cases e
      have hlen : (ts.take 20).length = 20 := by rw [List.length_take]; omega
      refine .inr ⟨g, off, cap, by rw [hlen]; rfl, hg, by omega, fun j x hx => ?_⟩
      have : j < 20 := by have := (List.getElem?_eq_some_iff.1 hx).1; omega
      rw [List.getElem?_take_of_lt this] at hx
      exact hcell j x hx
end Go.Proofs.Ytcfpgcejahfdfab

/- PosKnown holds: the examples of the chapter on positions, whatever the memory and the order. -/
import Derived.Test.YtcfpgcejahfdfaaWay
namespace Go.Proofs.Ytcfpgcejahfdfaa
open Go.RowKit
set_option linter.unusedVariables false
set_option linter.unusedSimpArgs false

theorem pk1 (w : World) : Calls Try.prog 5 #[.int .u64 7] w fun e w' => e = .returned (.tuple #[.int .i64 3, .bool true]) ∧ w = w' :=
  (Rows_any 7 w (by decide)).mono fun e w' ⟨he, hw⟩ => ⟨he.trans (ret2 (ival (by decide)) (bval (by decide))), hw⟩
theorem pk2 (w : World) : Calls Try.prog 10 #[.int .u64 6, .int .i64 3] w fun e w' => e = .returned (.tuple #[.int .u64 11, .bool true]) ∧ w = w' :=
  (Parent_any 6 3 w (by decide) (by decide)).mono fun e w' ⟨he, hw⟩ => ⟨he.trans (ret2 (ival (by decide)) (bval (by decide))), hw⟩
theorem pk3 (w : World) : Calls Try.prog 14 #[.int .u64 7, .int .i64 2] w fun e w' => e = .returned (.tuple #[.int .u64 12, .bool true]) ∧ ∃ k, w' = w.drewN k :=
  (Root_any 7 2 w (by decide) (by decide)).mono fun e w' ⟨he, hw⟩ => ⟨he.trans (ret2 (ival (by decide)) (bval (by decide))), hw⟩
theorem pk4 (w : World) : Calls Try.prog 5 #[.int .u64 8] w fun e w' => e = .returned (.tuple #[.int .i64 3, .bool true]) ∧ w = w' :=
  (Rows_any 8 w (by decide)).mono fun e w' ⟨he, hw⟩ => ⟨he.trans (ret2 (ival (by decide)) (bval (by decide))), hw⟩
theorem pk5 (w : World) : Calls Try.prog 5 #[.int .u64 9] w fun e w' => e = .returned (.tuple #[.int .i64 4, .bool true]) ∧ w = w' :=
  (Rows_any 9 w (by decide)).mono fun e w' ⟨he, hw⟩ => ⟨he.trans (ret2 (ival (by decide)) (bval (by decide))), hw⟩
theorem pk6 (w : World) : Calls Try.prog 5 #[.int .u64 0] w fun e w' => e = .returned (.tuple #[.int .i64 0, .bool true]) ∧ w = w' :=
  (Rows_any 0 w (by decide)).mono fun e w' ⟨he, hw⟩ => ⟨he.trans (ret2 (ival (by decide)) (bval (by decide))), hw⟩
theorem pk7 (w : World) : Calls Try.prog 5 #[.int .u64 9223372036854775808] w fun e w' => e = .returned (.tuple #[.int .i64 0, .bool false]) ∧ w = w' :=
  (Rows_any 9223372036854775808 w (by decide)).mono fun e w' ⟨he, hw⟩ => ⟨he.trans (ret2 (ival (by decide)) (bval (by decide))), hw⟩
theorem pk8 (w : World) : Calls Try.prog 8 #[.int .u64 11, .int .i64 3] w fun e w' => e = .returned (.tuple #[.int .u64 6, .bool true]) ∧ w = w' :=
  (Left_any 11 3 w (by decide) (by decide)).mono fun e w' ⟨he, hw⟩ => ⟨he.trans (ret2 (ival (by decide)) (bval (by decide))), hw⟩
theorem pk9 (w : World) : Calls Try.prog 9 #[.int .u64 10, .int .i64 3] w fun e w' => e = .returned (.tuple #[.int .u64 11, .bool true]) ∧ w = w' :=
  (Sibling_any 10 3 w (by decide) (by decide)).mono fun e w' ⟨he, hw⟩ => ⟨he.trans (ret2 (ival (by decide)) (bval (by decide))), hw⟩
theorem pk10 (w : World) : Calls Try.prog 10 #[.int .u64 14, .int .i64 3] w fun e w' => e = .returned (.tuple #[.int .u64 0, .bool false]) ∧ w = w' :=
  (Parent_any 14 3 w (by decide) (by decide)).mono fun e w' ⟨he, hw⟩ => ⟨he.trans (ret2 (ival (by decide)) (bval (by decide))), hw⟩
theorem pk11 (w : World) : Calls Try.prog 8 #[.int .u64 3, .int .i64 3] w fun e w' => e = .returned (.tuple #[.int .u64 0, .bool false]) ∧ w = w' :=
  (Left_any 3 3 w (by decide) (by decide)).mono fun e w' ⟨he, hw⟩ => ⟨he.trans (ret2 (ival (by decide)) (bval (by decide))), hw⟩
theorem pk12 (w : World) : Calls Try.prog 13 #[.int .u64 0, .int .i64 3] w fun e w' => e = .returned (.tuple #[.int .i64 0, .bool true]) ∧ w = w' :=
  (Row_any 0 3 w (by decide) (by decide)).mono fun e w' ⟨he, hw⟩ => ⟨he.trans (ret2 (ival (by decide)) (bval (by decide))), hw⟩
theorem pk13 (w : World) : Calls Try.prog 13 #[.int .u64 1, .int .i64 3] w fun e w' => e = .returned (.tuple #[.int .i64 0, .bool true]) ∧ w = w' :=
  (Row_any 1 3 w (by decide) (by decide)).mono fun e w' ⟨he, hw⟩ => ⟨he.trans (ret2 (ival (by decide)) (bval (by decide))), hw⟩
theorem pk14 (w : World) : Calls Try.prog 13 #[.int .u64 2, .int .i64 3] w fun e w' => e = .returned (.tuple #[.int .i64 0, .bool true]) ∧ w = w' :=
  (Row_any 2 3 w (by decide) (by decide)).mono fun e w' ⟨he, hw⟩ => ⟨he.trans (ret2 (ival (by decide)) (bval (by decide))), hw⟩
theorem pk15 (w : World) : Calls Try.prog 13 #[.int .u64 3, .int .i64 3] w fun e w' => e = .returned (.tuple #[.int .i64 0, .bool true]) ∧ w = w' :=
  (Row_any 3 3 w (by decide) (by decide)).mono fun e w' ⟨he, hw⟩ => ⟨he.trans (ret2 (ival (by decide)) (bval (by decide))), hw⟩
theorem pk16 (w : World) : Calls Try.prog 13 #[.int .u64 4, .int .i64 3] w fun e w' => e = .returned (.tuple #[.int .i64 0, .bool true]) ∧ w = w' :=
  (Row_any 4 3 w (by decide) (by decide)).mono fun e w' ⟨he, hw⟩ => ⟨he.trans (ret2 (ival (by decide)) (bval (by decide))), hw⟩
theorem pk17 (w : World) : Calls Try.prog 13 #[.int .u64 5, .int .i64 3] w fun e w' => e = .returned (.tuple #[.int .i64 0, .bool true]) ∧ w = w' :=
  (Row_any 5 3 w (by decide) (by decide)).mono fun e w' ⟨he, hw⟩ => ⟨he.trans (ret2 (ival (by decide)) (bval (by decide))), hw⟩
theorem pk18 (w : World) : Calls Try.prog 13 #[.int .u64 6, .int .i64 3] w fun e w' => e = .returned (.tuple #[.int .i64 0, .bool true]) ∧ w = w' :=
  (Row_any 6 3 w (by decide) (by decide)).mono fun e w' ⟨he, hw⟩ => ⟨he.trans (ret2 (ival (by decide)) (bval (by decide))), hw⟩
theorem pk19 (w : World) : Calls Try.prog 13 #[.int .u64 7, .int .i64 3] w fun e w' => e = .returned (.tuple #[.int .i64 0, .bool true]) ∧ w = w' :=
  (Row_any 7 3 w (by decide) (by decide)).mono fun e w' ⟨he, hw⟩ => ⟨he.trans (ret2 (ival (by decide)) (bval (by decide))), hw⟩
theorem pk20 (w : World) : Calls Try.prog 13 #[.int .u64 8, .int .i64 3] w fun e w' => e = .returned (.tuple #[.int .i64 1, .bool true]) ∧ w = w' :=
  (Row_any 8 3 w (by decide) (by decide)).mono fun e w' ⟨he, hw⟩ => ⟨he.trans (ret2 (ival (by decide)) (bval (by decide))), hw⟩
theorem pk21 (w : World) : Calls Try.prog 13 #[.int .u64 9, .int .i64 3] w fun e w' => e = .returned (.tuple #[.int .i64 1, .bool true]) ∧ w = w' :=
  (Row_any 9 3 w (by decide) (by decide)).mono fun e w' ⟨he, hw⟩ => ⟨he.trans (ret2 (ival (by decide)) (bval (by decide))), hw⟩
theorem pk22 (w : World) : Calls Try.prog 13 #[.int .u64 10, .int .i64 3] w fun e w' => e = .returned (.tuple #[.int .i64 1, .bool true]) ∧ w = w' :=
  (Row_any 10 3 w (by decide) (by decide)).mono fun e w' ⟨he, hw⟩ => ⟨he.trans (ret2 (ival (by decide)) (bval (by decide))), hw⟩
theorem pk23 (w : World) : Calls Try.prog 13 #[.int .u64 11, .int .i64 3] w fun e w' => e = .returned (.tuple #[.int .i64 1, .bool true]) ∧ w = w' :=
  (Row_any 11 3 w (by decide) (by decide)).mono fun e w' ⟨he, hw⟩ => ⟨he.trans (ret2 (ival (by decide)) (bval (by decide))), hw⟩
theorem pk24 (w : World) : Calls Try.prog 13 #[.int .u64 12, .int .i64 3] w fun e w' => e = .returned (.tuple #[.int .i64 2, .bool true]) ∧ w = w' :=
  (Row_any 12 3 w (by decide) (by decide)).mono fun e w' ⟨he, hw⟩ => ⟨he.trans (ret2 (ival (by decide)) (bval (by decide))), hw⟩
theorem pk25 (w : World) : Calls Try.prog 13 #[.int .u64 13, .int .i64 3] w fun e w' => e = .returned (.tuple #[.int .i64 2, .bool true]) ∧ w = w' :=
  (Row_any 13 3 w (by decide) (by decide)).mono fun e w' ⟨he, hw⟩ => ⟨he.trans (ret2 (ival (by decide)) (bval (by decide))), hw⟩
theorem pk26 (w : World) : Calls Try.prog 13 #[.int .u64 14, .int .i64 3] w fun e w' => e = .returned (.tuple #[.int .i64 3, .bool true]) ∧ w = w' :=
  (Row_any 14 3 w (by decide) (by decide)).mono fun e w' ⟨he, hw⟩ => ⟨he.trans (ret2 (ival (by decide)) (bval (by decide))), hw⟩
theorem pk27 (w : World) : Calls Try.prog 13 #[.int .u64 15, .int .i64 3] w fun e w' => e = .returned (.tuple #[.int .i64 0, .bool false]) ∧ w = w' :=
  (Row_any 15 3 w (by decide) (by decide)).mono fun e w' ⟨he, hw⟩ => ⟨he.trans (ret2 (ival (by decide)) (bval (by decide))), hw⟩
theorem pk28 (w : World) : Calls Try.prog 14 #[.int .u64 7, .int .i64 1] w fun e w' => e = .returned (.tuple #[.int .u64 10, .bool true]) ∧ ∃ k, w' = w.drewN k :=
  (Root_any 7 1 w (by decide) (by decide)).mono fun e w' ⟨he, hw⟩ => ⟨he.trans (ret2 (ival (by decide)) (bval (by decide))), hw⟩
theorem pk29 (w : World) : Calls Try.prog 14 #[.int .u64 7, .int .i64 0] w fun e w' => e = .returned (.tuple #[.int .u64 6, .bool true]) ∧ ∃ k, w' = w.drewN k :=
  (Root_any 7 0 w (by decide) (by decide)).mono fun e w' ⟨he, hw⟩ => ⟨he.trans (ret2 (ival (by decide)) (bval (by decide))), hw⟩
theorem pk30 (w : World) : Calls Try.prog 14 #[.int .u64 4, .int .i64 1] w fun e w' => e = .returned (.tuple #[.int .u64 0, .bool false]) ∧ ∃ k, w' = w.drewN k :=
  (Root_any 4 1 w (by decide) (by decide)).mono fun e w' ⟨he, hw⟩ => ⟨he.trans (ret2 (ival (by decide)) (bval (by decide))), hw⟩
theorem pk31 (w : World) : Calls Try.prog 17 #[.int .u64 7, .int .u64 9] w fun e w' => e = .returned (.tuple #[.int .i64 2, .bool true]) ∧ Below w.heap.size w w' :=
  (Tree_any 7 9 w (by decide) (by decide)).mono fun e w' ⟨he, hw⟩ => ⟨he.trans (ret2 (ival (by decide)) (bval (by decide))), hw⟩
theorem pk32 (w : World) : Calls Try.prog 17 #[.int .u64 7, .int .u64 5] w fun e w' => e = .returned (.tuple #[.int .i64 1, .bool true]) ∧ Below w.heap.size w w' :=
  (Tree_any 7 5 w (by decide) (by decide)).mono fun e w' ⟨he, hw⟩ => ⟨he.trans (ret2 (ival (by decide)) (bval (by decide))), hw⟩
theorem pk33 (w : World) : Calls Try.prog 17 #[.int .u64 7, .int .u64 7] w fun e w' => e = .returned (.tuple #[.int .i64 0, .bool false]) ∧ Below w.heap.size w w' :=
  (Tree_any 7 7 w (by decide) (by decide)).mono fun e w' ⟨he, hw⟩ => ⟨he.trans (ret2 (ival (by decide)) (bval (by decide))), hw⟩

set_option maxHeartbeats 400000 in
theorem pkAwake (w : World) : Calls Try.prog 6 #[] w fun e w' => e = .returned (.bool true) ∧ Below w.heap.size w w' := by
  go_enter Try.func6, Try.ntmps6
  go_wp2_with (first | (go_at_call 5; (with_reducible refine (pk1 _).mono ?_); rintro e w' ⟨rfl, rfl⟩) | (go_at_call 10; (with_reducible refine (pk2 _).mono ?_); rintro e w' ⟨rfl, rfl⟩) | (go_at_call 14; (with_reducible refine (pk3 _).mono ?_); rintro e w' ⟨rfl, nq, rfl⟩) | go_in)
  go_ret
  exact ⟨rfl, below_drewN _ _ _⟩

set_option maxHeartbeats 400000 in
theorem pkBegin13 (w : World) : Calls Try.prog 7 #[.int .i64 1, .int .i64 3] w fun e w' => e = .returned (.tuple #[.int .u64 8, .bool true]) ∧ ∃ k, w' = w.drewN k := by
  go_enter Try.func7, Try.ntmps7
  go_wp2_with (first | (go_at_call 31; refine (begin_any 1 3 _ (by decide) (by decide)).mono ?_; rintro e w' ⟨rfl, nq, rfl⟩) | (go_at_call 30; refine (may_any 3 _ (by decide)).mono ?_; rintro e w' ⟨rfl, rfl⟩))
  go_ret2
  exact ⟨ret2 (ival (by decide)) rfl, _, rfl⟩
set_option maxHeartbeats 400000 in
theorem pkBegin33 (w : World) : Calls Try.prog 7 #[.int .i64 3, .int .i64 3] w fun e w' => e = .returned (.tuple #[.int .u64 14, .bool true]) ∧ ∃ k, w' = w.drewN k := by
  go_enter Try.func7, Try.ntmps7
  go_wp2_with (first | (go_at_call 31; refine (begin_any 3 3 _ (by decide) (by decide)).mono ?_; rintro e w' ⟨rfl, nq, rfl⟩) | (go_at_call 30; refine (may_any 3 _ (by decide)).mono ?_; rintro e w' ⟨rfl, rfl⟩))
  go_ret2
  exact ⟨ret2 (ival (by decide)) rfl, _, rfl⟩

theorem pkb13 (w : World) : Calls Try.prog 31 #[.int .i64 1, .int .i64 3] w fun e w' => e = .returned (.int .u64 8) ∧ ∃ k, w' = w.drewN k := (begin_any 1 3 w (by decide) (by decide)).mono fun e w' ⟨he, hw⟩ => ⟨he.trans (ret1 (ival (by decide))), hw⟩
theorem pkb14 (w : World) : Calls Try.prog 31 #[.int .i64 1, .int .i64 4] w fun e w' => e = .returned (.int .u64 16) ∧ ∃ k, w' = w.drewN k := (begin_any 1 4 w (by decide) (by decide)).mono fun e w' ⟨he, hw⟩ => ⟨he.trans (ret1 (ival (by decide))), hw⟩
set_option maxHeartbeats 400000 in
theorem pkRemap1 (w : World) : Calls Try.prog 18 #[.int .u64 8, .int .i64 3, .int .i64 4] w fun e w' => e = .returned (.tuple #[.int .u64 16, .bool true]) ∧ ∃ k, w' = w.drewN k := by
  go_enter Try.func18, Try.ntmps18
  go_wp2_with (first | (go_at_call 13; (with_reducible refine (pk20 _).mono ?_); rintro e w' ⟨rfl, rfl⟩) | (go_at_call 30; refine (may_any 4 _ (by decide)).mono ?_; rintro e w' ⟨rfl, rfl⟩) | (go_at_call 31; (with_reducible refine (pkb13 _).mono ?_); rintro e w' ⟨rfl, nq, rfl⟩) | (go_at_call 31; (with_reducible refine (pkb14 _).mono ?_); rintro e w' ⟨rfl, nq, rfl⟩))
  go_ret2
  exact ⟨rfl, _, rfl⟩
set_option maxHeartbeats 400000 in
theorem pkRemap2 (w : World) : Calls Try.prog 18 #[.int .u64 14, .int .i64 3, .int .i64 2] w fun e w' => e = .returned (.tuple #[.int .u64 0, .bool false]) ∧ ∃ k, w' = w.drewN k := by
  go_enter Try.func18, Try.ntmps18
  go_wp2_with (first | (go_at_call 13; (with_reducible refine (pk26 _).mono ?_); rintro e w' ⟨rfl, rfl⟩) | (go_at_call 30; refine (may_any 2 _ (by decide)).mono ?_; rintro e w' ⟨rfl, rfl⟩))
  go_ret2
  exact ⟨rfl, 0, rfl⟩
theorem pkWin1 (w : World) : Calls Try.prog 19 #[.int .u64 1, .int .u64 12, .int .i64 3] w fun e w' => e = .returned (.bool true) ∧ ∃ k, w' = w.drewN k := (Within_any 1 12 3 w (by decide) (by decide) (by decide)).mono fun e w' ⟨he, hw⟩ => ⟨he.trans (ret1 (bval (by decide))), hw⟩
theorem pkWin2 (w : World) : Calls Try.prog 19 #[.int .u64 12, .int .u64 1, .int .i64 3] w fun e w' => e = .returned (.bool false) ∧ ∃ k, w' = w.drewN k := (Within_any 12 1 3 w (by decide) (by decide) (by decide)).mono fun e w' ⟨he, hw⟩ => ⟨he.trans (ret1 (bval (by decide))), hw⟩
theorem pkWin3 (w : World) : Calls Try.prog 19 #[.int .u64 12, .int .u64 12, .int .i64 3] w fun e w' => e = .returned (.bool false) ∧ ∃ k, w' = w.drewN k := (Within_any 12 12 3 w (by decide) (by decide) (by decide)).mono fun e w' ⟨he, hw⟩ => ⟨he.trans (ret1 (bval (by decide))), hw⟩

theorem pkTrees (w : World) : Calls Try.prog 15 #[.int .u64 7] w fun e w' => ∃ g cap, e = .returned (.slice (some ⟨g, 0, none⟩) 3 cap) ∧ g < w'.heap.size ∧ w'.cell? ⟨g, 0, none⟩ = some (.int .i64 2) ∧ w'.cell? ⟨g, 1, none⟩ = some (.int .i64 1) ∧ w'.cell? ⟨g, 2, none⟩ = some (.int .i64 0) ∧ Below w.heap.size w w' := by
  refine (Trees_any 7 w (by decide)).mono ?_
  rintro e w' ⟨v, rfl, hr, hB⟩
  rw [show treesN 7 = [2, 1, 0] by decide] at hr
  obtain ⟨g, cap, rfl⟩ := ownsRow_succ hr
  exact ⟨g, cap, rfl, (hr.lt g rfl).2, hr.cellAt 0 (by decide), hr.cellAt 1 (by decide), hr.cellAt 2 (by decide), hB⟩
theorem pkWay (w : World) : Calls Try.prog 16 #[.int .u64 7, .int .u64 1] w fun e w' => ∃ g cap, e = .returned (.slice (some ⟨g, 0, none⟩) 3 cap) ∧ g < w'.heap.size ∧ w'.cell? ⟨g, 0, none⟩ = some (.int .u64 1) ∧ w'.cell? ⟨g, 1, none⟩ = some (.int .u64 8) ∧ w'.cell? ⟨g, 2, none⟩ = some (.int .u64 12) ∧ Below w.heap.size w w' := by
  refine (Way_any 7 1 w (by decide) (by decide)).mono ?_
  rintro e w' ⟨v, rfl, hr, hB⟩
  rw [show wayN 7 1 = [1, 8, 12] by decide] at hr
  obtain ⟨g, cap, rfl⟩ := ownsRow_succ hr
  exact ⟨g, cap, rfl, (hr.lt g rfl).2, hr.cellAt 0 (by decide), hr.cellAt 1 (by decide), hr.cellAt 2 (by decide), hB⟩

set_option maxRecDepth 100000 in
set_option maxHeartbeats 4000000 in
theorem pkLaw (w : World) : Calls Try.prog 3 #[] w fun e w' => e = .returned (.bool true) ∧ Below w.heap.size w w' := by
  go_enter Try.func3, Try.ntmps3
  go_wp2_with (first | (go_at_call 5; (with_reducible refine (pk1 _).mono ?_); rintro e w' ⟨rfl, rfl⟩) | (go_at_call 10; (with_reducible refine (pk2 _).mono ?_); rintro e w' ⟨rfl, rfl⟩) | (go_at_call 14; (with_reducible refine (pk3 _).mono ?_); rintro e w' ⟨rfl, nq, rfl⟩) | (go_at_call 5; (with_reducible refine (pk4 _).mono ?_); rintro e w' ⟨rfl, rfl⟩) | (go_at_call 5; (with_reducible refine (pk5 _).mono ?_); rintro e w' ⟨rfl, rfl⟩) | (go_at_call 5; (with_reducible refine (pk6 _).mono ?_); rintro e w' ⟨rfl, rfl⟩) | (go_at_call 5; (with_reducible refine (pk7 _).mono ?_); rintro e w' ⟨rfl, rfl⟩) | (go_at_call 8; (with_reducible refine (pk8 _).mono ?_); rintro e w' ⟨rfl, rfl⟩) | (go_at_call 9; (with_reducible refine (pk9 _).mono ?_); rintro e w' ⟨rfl, rfl⟩) | (go_at_call 10; (with_reducible refine (pk10 _).mono ?_); rintro e w' ⟨rfl, rfl⟩) | (go_at_call 8; (with_reducible refine (pk11 _).mono ?_); rintro e w' ⟨rfl, rfl⟩) | (go_at_call 13; (with_reducible refine (pk12 _).mono ?_); rintro e w' ⟨rfl, rfl⟩) | (go_at_call 13; (with_reducible refine (pk13 _).mono ?_); rintro e w' ⟨rfl, rfl⟩) | (go_at_call 13; (with_reducible refine (pk14 _).mono ?_); rintro e w' ⟨rfl, rfl⟩) | (go_at_call 13; (with_reducible refine (pk15 _).mono ?_); rintro e w' ⟨rfl, rfl⟩) | (go_at_call 13; (with_reducible refine (pk16 _).mono ?_); rintro e w' ⟨rfl, rfl⟩) | (go_at_call 13; (with_reducible refine (pk17 _).mono ?_); rintro e w' ⟨rfl, rfl⟩) | (go_at_call 13; (with_reducible refine (pk18 _).mono ?_); rintro e w' ⟨rfl, rfl⟩) | (go_at_call 13; (with_reducible refine (pk19 _).mono ?_); rintro e w' ⟨rfl, rfl⟩) | (go_at_call 13; (with_reducible refine (pk20 _).mono ?_); rintro e w' ⟨rfl, rfl⟩) | (go_at_call 13; (with_reducible refine (pk21 _).mono ?_); rintro e w' ⟨rfl, rfl⟩) | (go_at_call 13; (with_reducible refine (pk22 _).mono ?_); rintro e w' ⟨rfl, rfl⟩) | (go_at_call 13; (with_reducible refine (pk23 _).mono ?_); rintro e w' ⟨rfl, rfl⟩) | (go_at_call 13; (with_reducible refine (pk24 _).mono ?_); rintro e w' ⟨rfl, rfl⟩) | (go_at_call 13; (with_reducible refine (pk25 _).mono ?_); rintro e w' ⟨rfl, rfl⟩) | (go_at_call 13; (with_reducible refine (pk26 _).mono ?_); rintro e w' ⟨rfl, rfl⟩) | (go_at_call 13; (with_reducible refine (pk27 _).mono ?_); rintro e w' ⟨rfl, rfl⟩) | (go_at_call 14; (with_reducible refine (pk28 _).mono ?_); rintro e w' ⟨rfl, nq, rfl⟩) | (go_at_call 14; (with_reducible refine (pk29 _).mono ?_); rintro e w' ⟨rfl, nq, rfl⟩) | (go_at_call 14; (with_reducible refine (pk30 _).mono ?_); rintro e w' ⟨rfl, nq, rfl⟩) | (go_at_call 17; (with_reducible refine (pk31 _).mono ?_); rintro e w' ⟨rfl, hB⟩) | (go_at_call 17; (with_reducible refine (pk32 _).mono ?_); rintro e w' ⟨rfl, hB⟩) | (go_at_call 17; (with_reducible refine (pk33 _).mono ?_); rintro e w' ⟨rfl, hB⟩) | (go_at_call 6; refine (pkAwake _).mono ?_; rintro e w1 ⟨rfl, hB1⟩) | (go_at_call 7; (with_reducible refine (pkBegin13 _).mono ?_); rintro e w' ⟨rfl, nq, rfl⟩) | (go_at_call 7; (with_reducible refine (pkBegin33 _).mono ?_); rintro e w' ⟨rfl, nq, rfl⟩) | go_in)
  have hel : ∀ k : Nat, k < 15 → ∃ r : Nat, (#[Value.int .i64 0, .int .i64 0, .int .i64 0, .int .i64 0, .int .i64 0, .int .i64 0, .int .i64 0, .int .i64 0, .int .i64 1, .int .i64 1, .int .i64 1, .int .i64 1, .int .i64 2, .int .i64 2, .int .i64 3])[k]? = some (.int .i64 (r : Int)) ∧ rowN k 3 = r ∧ isPos k 3 = true := by
    intro k hk
    rcases (show k = 0 ∨ k = 1 ∨ k = 2 ∨ k = 3 ∨ k = 4 ∨ k = 5 ∨ k = 6 ∨ k = 7 ∨ k = 8 ∨ k = 9 ∨ k = 10 ∨ k = 11 ∨ k = 12 ∨ k = 13 ∨ k = 14 by omega) with rfl | rfl | rfl | rfl | rfl | rfl | rfl | rfl | rfl | rfl | rfl | rfl | rfl | rfl | rfl
    all_goals exact ⟨_, rfl, by decide, by decide⟩
  go_loop [150] (fun t => ∃ k : Nat, k ≤ 15 ∧ t = .int .i64 (k : Int)) (fun t => 15 - (intOf t).toNat)
  case atStart => exact ⟨0, by omega, rfl⟩
  case round =>
    obtain ⟨k, hk, rfl⟩ := hrel
    by_cases hlt : k < 15
    case pos =>
      obtain ⟨r, hr1, hr2, hr3⟩ := hel k hlt
      clear hel
      have hc : ∀ m, ((w1.drewN m).alloc (.cells (#[Value.int .i64 0, .int .i64 0, .int .i64 0, .int .i64 0, .int .i64 0, .int .i64 0, .int .i64 0, .int .i64 0, .int .i64 1, .int .i64 1, .int .i64 1, .int .i64 1, .int .i64 2, .int .i64 2, .int .i64 3]) 3)).cell? ⟨w1.heap.size, k, none⟩ = some (.int .i64 (r : Int)) := fun m =>
        (World.cell?_alloc_mark (w1.drewN m) _ _ _ k).trans hr1
      clear hr1
      have hcl : Calls Try.prog 13 = Calls Try.prog 13 := rfl
      go_wp2_with (go_at_call 13; refine (Row_any k 3 _ (by decide) (by omega)).mono ?_; rintro e w' ⟨rfl, rfl⟩)
      go_round
      case rel =>
        refine ⟨trivial, ?_⟩
        (repeat apply Exists.intro)
        exact ⟨⟨k + 1, by omega, rfl⟩, rfl⟩
      case measure => simp [intOf]; omega
    case neg =>
      have hk15 : k = 15 := by omega
      subst hk15
      clear hel hlt hk
      go_wp2_with (first | (go_at_call 5; (with_reducible refine (pk1 _).mono ?_); rintro e w' ⟨rfl, rfl⟩) | (go_at_call 10; (with_reducible refine (pk2 _).mono ?_); rintro e w' ⟨rfl, rfl⟩) | (go_at_call 14; (with_reducible refine (pk3 _).mono ?_); rintro e w' ⟨rfl, nq, rfl⟩) | (go_at_call 5; (with_reducible refine (pk4 _).mono ?_); rintro e w' ⟨rfl, rfl⟩) | (go_at_call 5; (with_reducible refine (pk5 _).mono ?_); rintro e w' ⟨rfl, rfl⟩) | (go_at_call 5; (with_reducible refine (pk6 _).mono ?_); rintro e w' ⟨rfl, rfl⟩) | (go_at_call 5; (with_reducible refine (pk7 _).mono ?_); rintro e w' ⟨rfl, rfl⟩) | (go_at_call 8; (with_reducible refine (pk8 _).mono ?_); rintro e w' ⟨rfl, rfl⟩) | (go_at_call 9; (with_reducible refine (pk9 _).mono ?_); rintro e w' ⟨rfl, rfl⟩) | (go_at_call 10; (with_reducible refine (pk10 _).mono ?_); rintro e w' ⟨rfl, rfl⟩) | (go_at_call 8; (with_reducible refine (pk11 _).mono ?_); rintro e w' ⟨rfl, rfl⟩) | (go_at_call 13; (with_reducible refine (pk12 _).mono ?_); rintro e w' ⟨rfl, rfl⟩) | (go_at_call 13; (with_reducible refine (pk13 _).mono ?_); rintro e w' ⟨rfl, rfl⟩) | (go_at_call 13; (with_reducible refine (pk14 _).mono ?_); rintro e w' ⟨rfl, rfl⟩) | (go_at_call 13; (with_reducible refine (pk15 _).mono ?_); rintro e w' ⟨rfl, rfl⟩) | (go_at_call 13; (with_reducible refine (pk16 _).mono ?_); rintro e w' ⟨rfl, rfl⟩) | (go_at_call 13; (with_reducible refine (pk17 _).mono ?_); rintro e w' ⟨rfl, rfl⟩) | (go_at_call 13; (with_reducible refine (pk18 _).mono ?_); rintro e w' ⟨rfl, rfl⟩) | (go_at_call 13; (with_reducible refine (pk19 _).mono ?_); rintro e w' ⟨rfl, rfl⟩) | (go_at_call 13; (with_reducible refine (pk20 _).mono ?_); rintro e w' ⟨rfl, rfl⟩) | (go_at_call 13; (with_reducible refine (pk21 _).mono ?_); rintro e w' ⟨rfl, rfl⟩) | (go_at_call 13; (with_reducible refine (pk22 _).mono ?_); rintro e w' ⟨rfl, rfl⟩) | (go_at_call 13; (with_reducible refine (pk23 _).mono ?_); rintro e w' ⟨rfl, rfl⟩) | (go_at_call 13; (with_reducible refine (pk24 _).mono ?_); rintro e w' ⟨rfl, rfl⟩) | (go_at_call 13; (with_reducible refine (pk25 _).mono ?_); rintro e w' ⟨rfl, rfl⟩) | (go_at_call 13; (with_reducible refine (pk26 _).mono ?_); rintro e w' ⟨rfl, rfl⟩) | (go_at_call 13; (with_reducible refine (pk27 _).mono ?_); rintro e w' ⟨rfl, rfl⟩) | (go_at_call 14; (with_reducible refine (pk28 _).mono ?_); rintro e w' ⟨rfl, nq, rfl⟩) | (go_at_call 14; (with_reducible refine (pk29 _).mono ?_); rintro e w' ⟨rfl, nq, rfl⟩) | (go_at_call 14; (with_reducible refine (pk30 _).mono ?_); rintro e w' ⟨rfl, nq, rfl⟩) | (go_at_call 17; (with_reducible refine (pk31 _).mono ?_); rintro e w' ⟨rfl, hB⟩) | (go_at_call 17; (with_reducible refine (pk32 _).mono ?_); rintro e w' ⟨rfl, hB⟩) | (go_at_call 17; (with_reducible refine (pk33 _).mono ?_); rintro e w' ⟨rfl, hB⟩) | (go_at_call 15; refine (pkTrees _).mono ?_; rintro e w2 ⟨g2, cap2, rfl, hg2, hh0, hh1, hh2, hB2⟩) | (go_at_call 16; refine (pkWay _).mono ?_; rintro e w3 ⟨g3, cap3, rfl, hg3, hy0, hy1, hy2, hB3⟩; have hh0 := (hB3.cell (p := ⟨g2, 0, none⟩) hg2).trans hh0; have hh1 := (hB3.cell (p := ⟨g2, 1, none⟩) hg2).trans hh1; have hh2 := (hB3.cell (p := ⟨g2, 2, none⟩) hg2).trans hh2) | (go_at_call 18; (with_reducible refine (pkRemap1 _).mono ?_); rintro e w' ⟨rfl, nq, rfl⟩) | (go_at_call 18; (with_reducible refine (pkRemap2 _).mono ?_); rintro e w' ⟨rfl, nq, rfl⟩) | (go_at_call 19; (with_reducible refine (pkWin1 _).mono ?_); rintro e w' ⟨rfl, nq, rfl⟩) | (go_at_call 19; (with_reducible refine (pkWin2 _).mono ?_); rintro e w' ⟨rfl, nq, rfl⟩) | (go_at_call 19; (with_reducible refine (pkWin3 _).mono ?_); rintro e w' ⟨rfl, nq, rfl⟩) | go_in)
      go_ret
      exact ⟨rfl, by repeat (first | exact Below.refl _ _ | refine bl_drewN ?_ | refine bl_drew ?_ | refine bl_alloc ?_ | refine bl_step ?_ (by assumption))⟩
end Go.Proofs.Ytcfpgcejahfdfaa

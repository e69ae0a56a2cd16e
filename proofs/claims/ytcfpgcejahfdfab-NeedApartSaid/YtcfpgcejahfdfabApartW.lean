/- The walk of NeedApart. -/
import Derived.Test.YtcfpgcejahfdfabWorksW
import Derived.Test.YtcfpgcejahfdfabApartL
namespace Go.Proofs.Ytcfpgcejahfdfab
open Go.RowKit Go.Maps Go.Shelf
attribute [local go_sem] Oper.semAt_some
set_option linter.unusedVariables false
set_option linter.unusedSimpArgs false

/-- What Moved answers, made of three values. -/
def MovedIs (n : Nat) (ts : List Nat) (p m : Nat) (s : Bool) (e : Int) : Prop :=
  (s = false ∧ e = 2) ∨ (s = false ∧ e = 0) ∨ (s = true ∧ e = 0 ∧ treeOk n p = true ∧ goneB n ts p = false ∧ m = movedN n ts p)

theorem moved_is_any (n : Nat) (ts : List Nat) (p : Nat) (hn : n < 2 ^ 64) (hts : ∀ t ∈ ts, t < 2 ^ 64) (hl : ts.length ≤ 1125899906842624) (hp : p < 2 ^ 64) :
    ∃ (m : Nat) (s : Bool) (e : Int), m < 2 ^ 64 ∧ MovedIs n ts p m s e ∧ ∀ (v : Value) (w : World), ArgAt w v ts → Calls Try.prog 22 #[.int .u64 (n : Nat), v, .int .u64 (p : Nat)] w fun x W => x = .returned (.tuple #[.int .u64 (m : Nat), .bool s, .int .i64 e]) ∧ Below w.heap.size w W := by
  by_cases hF : Fine n ts ∧ treeOk n p = true
  · by_cases hg : goneB n ts p = true
    · refine ⟨0, false, 0, by decide, .inr (.inl ⟨rfl, rfl⟩), fun v w hv => (Moved_any n ts p v w hn hts hl hp hv).mono ?_⟩
      rintro x W ⟨⟨h, _⟩ | ⟨_, _, _, h⟩ | ⟨_, _, h, _⟩, hb⟩
      · exact absurd hF h
      · exact ⟨h, hb⟩
      · rw [hg] at h; cases h
    · have hg' : goneB n ts p = false := by cases h : goneB n ts p with | false => rfl | true => exact absurd h hg
      refine ⟨movedN n ts p, true, 0, move_lt n ts _ _ ?_, .inr (.inr ⟨rfl, rfl, hF.2, hg', rfl⟩), fun v w hv => (Moved_any n ts p v w hn hts hl hp hv).mono ?_⟩
      · have hne := (tree_way n p).1 hF.2
        have hm : (wayN n p).getLastD 0 ∈ wayN n p := by
          rw [List.getLastD_eq_getLast?, List.getLast?_eq_some_getLast hne]
          exact List.getLast_mem hne
        exact way_mem_lt n p hp _ hm
      · rintro x W ⟨⟨h, _⟩ | ⟨_, _, h, _⟩ | ⟨_, _, _, h⟩, hb⟩
        · exact absurd hF h
        · rw [hg'] at h; cases h
        · exact ⟨h, hb⟩
  · refine ⟨0, false, 2, by decide, .inl ⟨rfl, rfl⟩, fun v w hv => (Moved_any n ts p v w hn hts hl hp hv).mono ?_⟩
    rintro x W ⟨⟨_, h⟩ | ⟨h1, h2, _⟩ | ⟨h1, h2, _⟩, hb⟩
    · exact ⟨h, hb⟩
    · exact absurd ⟨h1, h2⟩ hF
    · exact absurd ⟨h1, h2⟩ hF

theorem Blk.two {W : World} {b : Nat} {x y : Value} {T : TypeId} (h : Blk W b #[x, y] T) : W.cell? ⟨b, 0, none⟩ = some x ∧ W.cell? ⟨b, 1, none⟩ = some y ∧ W.frozen? ⟨b, 0, none⟩ = false ∧ W.frozen? ⟨b, 1, none⟩ = false :=
  ⟨h.cell 0, h.cell 1, h.frozen 0, h.frozen 1⟩

set_option maxRecDepth 100000 in
set_option maxHeartbeats 8000000 in
theorem Apart_any (n : Nat) (ts : List Nat) (a : Option Addr) (cap a0 a1 : Nat) (w : World) (hn : n < 2 ^ 64) (hts : ∀ t ∈ ts, t < 2 ^ 64) (hl : ts.length ≤ 9223372036854775807) (hc : ts.length ≤ cap) (h0 : a0 < 2 ^ 64) (h1 : a1 < 2 ^ 64)
    (hv : ArgAt w (.slice a ts.length cap) ts) :
    Calls Try.prog 5 #[.int .u64 (n : Nat), .slice a ts.length cap, .agg #[.int .u64 (a0 : Nat), .int .u64 (a1 : Nat)]] w fun e W => e = .returned (.bool true) ∧ Below w.heap.size w W := by
  have hts2 : ∀ t ∈ ts.take 20, t < 2 ^ 64 := fun t ht => hts t (List.mem_of_mem_take ht)
  have hl2 : (ts.take 20).length ≤ 1125899906842624 := by rw [List.length_take]; omega
  have cC : ∀ W, Below w.heap.size w W → Calls Try.prog 19 #[.slice a ts.length cap] W fun e W' => (∃ v, e = .returned v ∧ ArgAt W v (ts.take 20)) ∧ W' = W := fun W hb => cut_any a cap ts W (hv.step hb) hc hl
  have cW := fun W => works_any W
  have cR := fun W => Rows_any n W hn
  obtain ⟨x, s0, e0, hx, hM0, c0⟩ := moved_is_any n (ts.take 20) a0 hn hts2 hl2 h0
  obtain ⟨y, s1, e1, hy, hM1, c1⟩ := moved_is_any n (ts.take 20) a1 hn hts2 hl2 h1
  have hR := rowsN_le n
  clear hl2 hts hts2 hv
  generalize hT : ts.take 20 = ls at hM0 hM1 c0 c1 cC
  have HC := Lib.hid hc
  clear hc hl
  by_cases hgood : s0 = true ∧ s1 = true
  case neg =>
    have hs : (s0 = false ∧ (e0 = 2 ∨ e0 = 0)) ∨ (s0 = true ∧ e0 = 0 ∧ s1 = false ∧ (e1 = 2 ∨ e1 = 0)) := by
      rcases hM0 with ⟨h, k⟩ | ⟨h, k⟩ | ⟨h, k, _⟩
      · exact .inl ⟨h, .inl k⟩
      · exact .inl ⟨h, .inr k⟩
      · rcases hM1 with ⟨h', k'⟩ | ⟨h', k'⟩ | ⟨h', k', _⟩
        · exact .inr ⟨h, k, h', .inl k'⟩
        · exact .inr ⟨h, k, h', .inr k'⟩
        · exact absurd ⟨h, h'⟩ hgood
    have hs2 : (s1 = false ∧ e1 = 2) ∨ (s1 = false ∧ e1 = 0) ∨ (s1 = true ∧ e1 = 0) := by
      rcases hM1 with ⟨h, k⟩ | ⟨h, k⟩ | ⟨h, k, _⟩
      · exact .inl ⟨h, k⟩
      · exact .inr (.inl ⟨h, k⟩)
      · exact .inr (.inr ⟨h, k⟩)
    clear hM0 hM1 hgood
    rcases hs with ⟨rfl, rfl | rfl⟩ | ⟨rfl, rfl, rfl, rfl | rfl⟩
    case inl.inl => 
      rcases hs2 with ⟨rfl, rfl⟩ | ⟨rfl, rfl⟩ | ⟨rfl, rfl⟩
      all_goals
        go_enter Try.func5, Try.ntmps5
        go_wp2_with (first
          | ((with_reducible refine (cC _ (bl_alloc (Below.refl _ _))).mono ?_); rintro e W1 ⟨⟨v, rfl, hv1⟩, rfl⟩)
          | ((with_reducible refine (c0 _ _ hv1).mono ?_); rintro e W2 ⟨rfl, hb2⟩; have k2 := (Blk.new w #[.int .u64 (a0 : Nat), .int .u64 (a1 : Nat)] _).below hb2 (by simp); obtain ⟨q20, q21, r20, r21⟩ := k2.two; have hv2 := hv1.step hb2; have bB2 := bl_step (bl_alloc (Below.refl w.heap.size w)) hb2)
          | ((with_reducible refine (c1 _ _ hv2).mono ?_); rintro e W3 ⟨rfl, hb3⟩; have k3 := k2.below hb3 k2.lt; obtain ⟨q30, q31, r30, r31⟩ := k3.two; have bB3 := bl_step bB2 hb3)
          | ((with_reducible refine (cW _).mono ?_); rintro e W9 ⟨rfl, hb9⟩))
        go_ret
        exact ⟨rfl, bl_step bB3 hb9⟩
    case inl.inr =>
      rcases hs2 with ⟨rfl, rfl⟩ | ⟨rfl, rfl⟩ | ⟨rfl, rfl⟩
      all_goals
        go_enter Try.func5, Try.ntmps5
        go_wp2_with (first
          | ((with_reducible refine (cC _ (bl_alloc (Below.refl _ _))).mono ?_); rintro e W1 ⟨⟨v, rfl, hv1⟩, rfl⟩)
          | ((with_reducible refine (c0 _ _ hv1).mono ?_); rintro e W2 ⟨rfl, hb2⟩; have k2 := (Blk.new w #[.int .u64 (a0 : Nat), .int .u64 (a1 : Nat)] _).below hb2 (by simp); obtain ⟨q20, q21, r20, r21⟩ := k2.two; have hv2 := hv1.step hb2; have bB2 := bl_step (bl_alloc (Below.refl w.heap.size w)) hb2)
          | ((with_reducible refine (c1 _ _ hv2).mono ?_); rintro e W3 ⟨rfl, hb3⟩; have k3 := k2.below hb3 k2.lt; obtain ⟨q30, q31, r30, r31⟩ := k3.two; have bB3 := bl_step bB2 hb3)
          | ((with_reducible refine (cW _).mono ?_); rintro e W9 ⟨rfl, hb9⟩))
        go_ret
        exact ⟨rfl, bl_step bB3 hb9⟩
    all_goals
      clear hs2
      go_enter Try.func5, Try.ntmps5
      go_wp2_with (first
        | ((with_reducible refine (cC _ (bl_alloc (Below.refl _ _))).mono ?_); rintro e W1 ⟨⟨v, rfl, hv1⟩, rfl⟩)
        | ((with_reducible refine (c0 _ _ hv1).mono ?_); rintro e W2 ⟨rfl, hb2⟩; have k2 := (Blk.new w #[.int .u64 (a0 : Nat), .int .u64 (a1 : Nat)] _).below hb2 (by simp); obtain ⟨q20, q21, r20, r21⟩ := k2.two; have hv2 := hv1.step hb2; have bB2 := bl_step (bl_alloc (Below.refl w.heap.size w)) hb2)
        | ((with_reducible refine (c1 _ _ hv2).mono ?_); rintro e W3 ⟨rfl, hb3⟩; have k3 := k2.below hb3 k2.lt; obtain ⟨q30, q31, r30, r31⟩ := k3.two; have bB3 := bl_step bB2 hb3)
        | ((with_reducible refine (cW _).mono ?_); rintro e W9 ⟨rfl, hb9⟩))
      go_ret
      exact ⟨rfl, bl_step bB3 hb9⟩
  case pos =>
    obtain ⟨rfl, rfl⟩ := hgood
    obtain ⟨rfl, t0, g0, hx0⟩ : e0 = 0 ∧ treeOk n a0 = true ∧ goneB n ls a0 = false ∧ x = movedN n ls a0 := by
      rcases hM0 with ⟨h, _⟩ | ⟨h, _⟩ | ⟨_, h⟩
      · cases h
      · cases h
      · exact h
    obtain ⟨rfl, t1, g1, hy0⟩ : e1 = 0 ∧ treeOk n a1 = true ∧ goneB n ls a1 = false ∧ y = movedN n ls a1 := by
      rcases hM1 with ⟨h, _⟩ | ⟨h, _⟩ | ⟨_, h⟩
      · cases h
      · cases h
      · exact h
    clear hM0 hM1
    obtain ⟨L1, L2, L3, L4⟩ := apart_law t0 t1 g0 g1
    obtain ⟨-, -, L5, L7⟩ := apart_law t1 t0 g1 g0
    rw [← hx0] at L1 L2 L3 L4 L5 L7
    rw [← hy0] at L3 L4 L5 L7
    have hxy : a0 = a1 → x = y := fun h => by rw [hx0, hy0, h]
    have cTx := fun W => Tree_any n x W hn hx
    have cTa := fun W => Tree_any n a0 W hn h0
    rw [L1, L2] at cTx
    rw [t0] at cTa
    have w1 := fun W => Within_any a0 a1 (rowsN n) W hR h0 h1
    have w2 := fun W => Within_any a1 a0 (rowsN n) W hR h1 h0
    have w3 := fun W => Within_any x y (rowsN n) W hR hx hy
    have w4 := fun W => Within_any y x (rowsN n) W hR hy hx
    clear hx0 hy0 t0 t1 g0 g1 L1 L2 hx hy hn h0 h1
    generalize treeN n a0 = h at cTx cTa
    by_cases he : a0 = a1
    case pos =>
      obtain rfl := hxy he
      subst he
      clear L3 L4 L5 L7 hxy w1 w2 w3 w4
      go_enter Try.func5, Try.ntmps5
      go_wp2_with (first
        | ((with_reducible refine (cC _ (bl_alloc (Below.refl _ _))).mono ?_); rintro e W1 ⟨⟨v, rfl, hv1⟩, rfl⟩)
        | ((with_reducible refine (c0 _ _ hv1).mono ?_); rintro e W2 ⟨rfl, hb2⟩; have k2 := (Blk.new w #[.int .u64 (a0 : Nat), .int .u64 (a0 : Nat)] _).below hb2 (by simp); obtain ⟨q20, q21, r20, r21⟩ := k2.two; have hv2 := hv1.step hb2; have bB2 := bl_step (bl_alloc (Below.refl w.heap.size w)) hb2)
        | ((with_reducible refine (c1 _ _ hv2).mono ?_); rintro e W3 ⟨rfl, hb3⟩; have k3 := k2.below hb3 k2.lt; obtain ⟨q30, q31, r30, r31⟩ := k3.two; have bB3 := bl_step bB2 hb3)
        | ((with_reducible refine (cR _).mono ?_); rintro e WR ⟨rfl, rfl⟩)
        | ((with_reducible refine (cTx _).mono ?_); rintro e W4 ⟨rfl, hb4⟩; have k4 := k3.below hb4 k3.lt; obtain ⟨q40, q41, r40, r41⟩ := k4.two; have bB4 := bl_step bB3 hb4)
        | ((with_reducible refine (cTa _).mono ?_); rintro e W5 ⟨rfl, hb5⟩; have k5 := k4.below hb5 k4.lt; obtain ⟨q50, q51, r50, r51⟩ := k5.two; have bB5 := bl_step bB4 hb5)
        | ((with_reducible refine (cW _).mono ?_); rintro e W9 ⟨rfl, hb9⟩))
      go_ret
      exact ⟨rfl, (by first | exact bl_step bB5 hb9 | exact bl_step (bl_drewN bB5) hb9 | exact bl_step (bl_drewN (bl_drewN bB5)) hb9 | exact bl_step (bl_drewN (bl_drewN (bl_drewN bB5))) hb9 | exact bl_step (bl_drewN (bl_drewN (bl_drewN (bl_drewN bB5)))) hb9)⟩
    case neg =>
      have hne : ¬ ((a0 : Int) = (a1 : Int)) := by omega
      cases hw1 : withinN a0 a1 (rowsN n) with
      | true =>
        rw [hw1] at w1
        by_cases hq : x = y
        · subst hq
          clear L3 L4 L5 L7 hxy w2 w3 w4 hw1 he
          go_enter Try.func5, Try.ntmps5
          go_wp2_with (first
            | ((with_reducible refine (cC _ (bl_alloc (Below.refl _ _))).mono ?_); rintro e W1 ⟨⟨v, rfl, hv1⟩, rfl⟩)
            | ((with_reducible refine (c0 _ _ hv1).mono ?_); rintro e W2 ⟨rfl, hb2⟩; have k2 := (Blk.new w #[.int .u64 (a0 : Nat), .int .u64 (a1 : Nat)] _).below hb2 (by simp); obtain ⟨q20, q21, r20, r21⟩ := k2.two; have hv2 := hv1.step hb2; have bB2 := bl_step (bl_alloc (Below.refl w.heap.size w)) hb2)
            | ((with_reducible refine (c1 _ _ hv2).mono ?_); rintro e W3 ⟨rfl, hb3⟩; have k3 := k2.below hb3 k2.lt; obtain ⟨q30, q31, r30, r31⟩ := k3.two; have bB3 := bl_step bB2 hb3)
            | ((with_reducible refine (cR _).mono ?_); rintro e WR ⟨rfl, rfl⟩)
            | ((with_reducible refine (cTx _).mono ?_); rintro e W4 ⟨rfl, hb4⟩; have k4 := k3.below hb4 k3.lt; obtain ⟨q40, q41, r40, r41⟩ := k4.two; have bB4 := bl_step bB3 hb4)
            | ((with_reducible refine (cTa _).mono ?_); rintro e W5 ⟨rfl, hb5⟩; have k5 := k4.below hb5 k4.lt; obtain ⟨q50, q51, r50, r51⟩ := k5.two; have bB5 := bl_step bB4 hb5)
            | ((with_reducible refine (cW _).mono ?_); rintro e W9 ⟨rfl, hb9⟩)
            | ((with_reducible refine (w1 _).mono ?_); rintro e W16 ⟨rfl, kk16, rfl⟩))
          go_ret
          exact ⟨rfl, (by first | exact bl_step bB5 hb9 | exact bl_step (bl_drewN bB5) hb9 | exact bl_step (bl_drewN (bl_drewN bB5)) hb9 | exact bl_step (bl_drewN (bl_drewN (bl_drewN bB5))) hb9 | exact bl_step (bl_drewN (bl_drewN (bl_drewN (bl_drewN bB5)))) hb9)⟩
        · have hwx := (L3 hw1).resolve_left hq
          rw [hwx] at w3
          have hneq : ¬ ((x : Int) = (y : Int)) := by omega
          clear L3 L4 L5 L7 hxy w2 w4 hw1 he hwx hq
          go_enter Try.func5, Try.ntmps5
          go_wp2_with (first
            | ((with_reducible refine (cC _ (bl_alloc (Below.refl _ _))).mono ?_); rintro e W1 ⟨⟨v, rfl, hv1⟩, rfl⟩)
            | ((with_reducible refine (c0 _ _ hv1).mono ?_); rintro e W2 ⟨rfl, hb2⟩; have k2 := (Blk.new w #[.int .u64 (a0 : Nat), .int .u64 (a1 : Nat)] _).below hb2 (by simp); obtain ⟨q20, q21, r20, r21⟩ := k2.two; have hv2 := hv1.step hb2; have bB2 := bl_step (bl_alloc (Below.refl w.heap.size w)) hb2)
            | ((with_reducible refine (c1 _ _ hv2).mono ?_); rintro e W3 ⟨rfl, hb3⟩; have k3 := k2.below hb3 k2.lt; obtain ⟨q30, q31, r30, r31⟩ := k3.two; have bB3 := bl_step bB2 hb3)
            | ((with_reducible refine (cR _).mono ?_); rintro e WR ⟨rfl, rfl⟩)
            | ((with_reducible refine (cTx _).mono ?_); rintro e W4 ⟨rfl, hb4⟩; have k4 := k3.below hb4 k3.lt; obtain ⟨q40, q41, r40, r41⟩ := k4.two; have bB4 := bl_step bB3 hb4)
            | ((with_reducible refine (cTa _).mono ?_); rintro e W5 ⟨rfl, hb5⟩; have k5 := k4.below hb5 k4.lt; obtain ⟨q50, q51, r50, r51⟩ := k5.two; have bB5 := bl_step bB4 hb5)
            | ((with_reducible refine (cW _).mono ?_); rintro e W9 ⟨rfl, hb9⟩)
            | ((with_reducible refine (w1 _).mono ?_); rintro e W16 ⟨rfl, kk16, rfl⟩)
            | ((with_reducible refine (w3 _).mono ?_); rintro e W36 ⟨rfl, kk36, rfl⟩))
          go_ret
          exact ⟨rfl, (by first | exact bl_step bB5 hb9 | exact bl_step (bl_drewN bB5) hb9 | exact bl_step (bl_drewN (bl_drewN bB5)) hb9 | exact bl_step (bl_drewN (bl_drewN (bl_drewN bB5))) hb9 | exact bl_step (bl_drewN (bl_drewN (bl_drewN (bl_drewN bB5)))) hb9)⟩
      | false =>
        rw [hw1] at w1
        cases hw2 : withinN a1 a0 (rowsN n) with
        | true =>
          rw [hw2] at w2
          by_cases hq : x = y
          · subst hq
            clear L3 L4 L5 L7 hxy w3 w4 hw1 hw2 he
            go_enter Try.func5, Try.ntmps5
            go_wp2_with (first
              | ((with_reducible refine (cC _ (bl_alloc (Below.refl _ _))).mono ?_); rintro e W1 ⟨⟨v, rfl, hv1⟩, rfl⟩)
              | ((with_reducible refine (c0 _ _ hv1).mono ?_); rintro e W2 ⟨rfl, hb2⟩; have k2 := (Blk.new w #[.int .u64 (a0 : Nat), .int .u64 (a1 : Nat)] _).below hb2 (by simp); obtain ⟨q20, q21, r20, r21⟩ := k2.two; have hv2 := hv1.step hb2; have bB2 := bl_step (bl_alloc (Below.refl w.heap.size w)) hb2)
              | ((with_reducible refine (c1 _ _ hv2).mono ?_); rintro e W3 ⟨rfl, hb3⟩; have k3 := k2.below hb3 k2.lt; obtain ⟨q30, q31, r30, r31⟩ := k3.two; have bB3 := bl_step bB2 hb3)
              | ((with_reducible refine (cR _).mono ?_); rintro e WR ⟨rfl, rfl⟩)
              | ((with_reducible refine (cTx _).mono ?_); rintro e W4 ⟨rfl, hb4⟩; have k4 := k3.below hb4 k3.lt; obtain ⟨q40, q41, r40, r41⟩ := k4.two; have bB4 := bl_step bB3 hb4)
              | ((with_reducible refine (cTa _).mono ?_); rintro e W5 ⟨rfl, hb5⟩; have k5 := k4.below hb5 k4.lt; obtain ⟨q50, q51, r50, r51⟩ := k5.two; have bB5 := bl_step bB4 hb5)
              | ((with_reducible refine (cW _).mono ?_); rintro e W9 ⟨rfl, hb9⟩)
              | ((with_reducible refine (w1 _).mono ?_); rintro e W16 ⟨rfl, kk16, rfl⟩)
              | ((with_reducible refine (w2 _).mono ?_); rintro e W26 ⟨rfl, kk26, rfl⟩))
            go_ret
            exact ⟨rfl, (by first | exact bl_step bB5 hb9 | exact bl_step (bl_drewN bB5) hb9 | exact bl_step (bl_drewN (bl_drewN bB5)) hb9 | exact bl_step (bl_drewN (bl_drewN (bl_drewN bB5))) hb9 | exact bl_step (bl_drewN (bl_drewN (bl_drewN (bl_drewN bB5)))) hb9)⟩
          · have hwx := (L5 hw2).resolve_left (fun h => hq h.symm)
            rw [hwx] at w4
            have hneq : ¬ ((x : Int) = (y : Int)) := by omega
            clear L3 L4 L5 L7 hxy w3 hw1 hw2 he hwx hq
            go_enter Try.func5, Try.ntmps5
            go_wp2_with (first
              | ((with_reducible refine (cC _ (bl_alloc (Below.refl _ _))).mono ?_); rintro e W1 ⟨⟨v, rfl, hv1⟩, rfl⟩)
              | ((with_reducible refine (c0 _ _ hv1).mono ?_); rintro e W2 ⟨rfl, hb2⟩; have k2 := (Blk.new w #[.int .u64 (a0 : Nat), .int .u64 (a1 : Nat)] _).below hb2 (by simp); obtain ⟨q20, q21, r20, r21⟩ := k2.two; have hv2 := hv1.step hb2; have bB2 := bl_step (bl_alloc (Below.refl w.heap.size w)) hb2)
              | ((with_reducible refine (c1 _ _ hv2).mono ?_); rintro e W3 ⟨rfl, hb3⟩; have k3 := k2.below hb3 k2.lt; obtain ⟨q30, q31, r30, r31⟩ := k3.two; have bB3 := bl_step bB2 hb3)
              | ((with_reducible refine (cR _).mono ?_); rintro e WR ⟨rfl, rfl⟩)
              | ((with_reducible refine (cTx _).mono ?_); rintro e W4 ⟨rfl, hb4⟩; have k4 := k3.below hb4 k3.lt; obtain ⟨q40, q41, r40, r41⟩ := k4.two; have bB4 := bl_step bB3 hb4)
              | ((with_reducible refine (cTa _).mono ?_); rintro e W5 ⟨rfl, hb5⟩; have k5 := k4.below hb5 k4.lt; obtain ⟨q50, q51, r50, r51⟩ := k5.two; have bB5 := bl_step bB4 hb5)
              | ((with_reducible refine (cW _).mono ?_); rintro e W9 ⟨rfl, hb9⟩)
              | ((with_reducible refine (w1 _).mono ?_); rintro e W16 ⟨rfl, kk16, rfl⟩)
              | ((with_reducible refine (w2 _).mono ?_); rintro e W26 ⟨rfl, kk26, rfl⟩)
              | ((with_reducible refine (w4 _).mono ?_); rintro e W46 ⟨rfl, kk46, rfl⟩))
            go_ret
            exact ⟨rfl, (by first | exact bl_step bB5 hb9 | exact bl_step (bl_drewN bB5) hb9 | exact bl_step (bl_drewN (bl_drewN bB5)) hb9 | exact bl_step (bl_drewN (bl_drewN (bl_drewN bB5))) hb9 | exact bl_step (bl_drewN (bl_drewN (bl_drewN (bl_drewN bB5)))) hb9)⟩
        | false =>
          rw [hw2] at w2
          obtain ⟨hq, hwx⟩ := L4 he hw1 hw2
          obtain ⟨-, hwy⟩ := L7 (fun h => he h.symm) hw2 hw1
          rw [hwx] at w3
          rw [hwy] at w4
          have hneq : ¬ ((x : Int) = (y : Int)) := by omega
          have hbne : ((x : Int) != (y : Int)) = true := by rw [bne_iff_ne]; exact hneq
          clear L3 L4 L5 L7 hxy hw1 hw2 he hwx hwy hq
          go_enter Try.func5, Try.ntmps5
          go_wp2_with (first
            | ((with_reducible refine (cC _ (bl_alloc (Below.refl _ _))).mono ?_); rintro e W1 ⟨⟨v, rfl, hv1⟩, rfl⟩)
            | ((with_reducible refine (c0 _ _ hv1).mono ?_); rintro e W2 ⟨rfl, hb2⟩; have k2 := (Blk.new w #[.int .u64 (a0 : Nat), .int .u64 (a1 : Nat)] _).below hb2 (by simp); obtain ⟨q20, q21, r20, r21⟩ := k2.two; have hv2 := hv1.step hb2; have bB2 := bl_step (bl_alloc (Below.refl w.heap.size w)) hb2)
            | ((with_reducible refine (c1 _ _ hv2).mono ?_); rintro e W3 ⟨rfl, hb3⟩; have k3 := k2.below hb3 k2.lt; obtain ⟨q30, q31, r30, r31⟩ := k3.two; have bB3 := bl_step bB2 hb3)
            | ((with_reducible refine (cR _).mono ?_); rintro e WR ⟨rfl, rfl⟩)
            | ((with_reducible refine (cTx _).mono ?_); rintro e W4 ⟨rfl, hb4⟩; have k4 := k3.below hb4 k3.lt; obtain ⟨q40, q41, r40, r41⟩ := k4.two; have bB4 := bl_step bB3 hb4)
            | ((with_reducible refine (cTa _).mono ?_); rintro e W5 ⟨rfl, hb5⟩; have k5 := k4.below hb5 k4.lt; obtain ⟨q50, q51, r50, r51⟩ := k5.two; have bB5 := bl_step bB4 hb5)
            | ((with_reducible refine (cW _).mono ?_); rintro e W9 ⟨rfl, hb9⟩)
            | ((with_reducible refine (w1 _).mono ?_); rintro e W16 ⟨rfl, kk16, rfl⟩)
            | ((with_reducible refine (w2 _).mono ?_); rintro e W26 ⟨rfl, kk26, rfl⟩)
            | ((with_reducible refine (w3 _).mono ?_); rintro e W36 ⟨rfl, kk36, rfl⟩)
            | ((with_reducible refine (w4 _).mono ?_); rintro e W46 ⟨rfl, kk46, rfl⟩))
          go_ret
          exact ⟨rfl, (by first | exact bl_step bB5 hb9 | exact bl_step (bl_drewN bB5) hb9 | exact bl_step (bl_drewN (bl_drewN bB5)) hb9 | exact bl_step (bl_drewN (bl_drewN (bl_drewN bB5))) hb9 | exact bl_step (bl_drewN (bl_drewN (bl_drewN (bl_drewN bB5)))) hb9)⟩
end Go.Proofs.Ytcfpgcejahfdfab

/- A map from numbers of 64 bits to counts: what it holds, as a function; its laws at the operations. -/
import Derived.Test.YtcfpgcejahfdfabBlk
import Derived.Test.YtcfpgcejahfdfabPosW
import Derived.Maps.OwnIn
import Derived.Maps.OwnOps
import Derived.Maps.OwnSet
import Derived.Maps.Views
namespace Go.Proofs.Ytcfpgcejahfdfab
open Go.RowKit Go.Maps
set_option linter.unusedVariables false
set_option linter.unusedSimpArgs false

theorem keyedU : Keyed Try.prog 22 := int_keyed Try.underlying22
theorem setT : Try.prog.underlying 98 = some (.map 22 3) := by kernel_rfl
theorem zeroInt (w : World) : (zeroValue 3).run Try.prog w = .ok (.int .i64 0) w := by kernel_rfl

/-- The map in block b holds f k at the key k (0: the key is not there); n: no more entries than that, and no count is above it. -/
def MapN (W : World) (b n : Nat) (f : Nat → Nat) : Prop :=
  ∃ D : DataW Unit, W.ownsMap Try.prog 22 (plainElem Try.prog 3) b n D ∧ (∀ k, k < 2 ^ 64 → D.atKey (.int .u64 (k : Nat)) (.lit (.int .i64 0)) = .lit (.int .i64 (f k : Nat))) ∧
    (∀ k, k < 2 ^ 64 → Maps.has D (.int .u64 (k : Nat)) = decide (0 < f k)) ∧ ∀ k, k < 2 ^ 64 → f k ≤ n

theorem MapN.lt {W : World} {b n : Nat} {f : Nat → Nat} (h : MapN W b n f) : b < W.heap.size := by
  obtain ⟨D, h, _⟩ := h
  exact h.lt
theorem MapN.of_block {W W' : World} {b n : Nat} {f : Nat → Nat} (h : MapN W b n f) (e : W'.heap[b]? = W.heap[b]?) : MapN W' b n f := by
  obtain ⟨D, ⟨es, clock, hb, r⟩, h2⟩ := h
  exact ⟨D, ⟨es, clock, e.trans hb, r⟩, h2⟩
theorem MapN.below {W W' : World} {b n B : Nat} {f : Nat → Nat} (h : MapN W b n f) (hb : Below B W W') (hB : b < B) : MapN W' b n f := h.of_block (hb.block b hB)
theorem MapN.grown {W W' : World} {b n : Nat} {f : Nat → Nat} {row : Option Nat} (h : MapN W b n f) (hg : W.grownBy W' row) (hr : some b ≠ row) : MapN W' b n f := h.of_block (hg.block b h.lt hr)
theorem MapN.alloc {W : World} {b n : Nat} {f : Nat → Nat} {o : Obj} (h : MapN W b n f) : MapN (W.alloc o) b n f := h.of_block (Below.heap_alloc W o b h.lt)
theorem MapN.set {W : World} {b n : Nat} {f : Nat → Nat} {a : Addr} {v : Value} (h : MapN W b n f) (hne : ¬ b = a.block) : MapN (W.setCell a v) b n f := h.of_block (Below.heap_setCell W a v b hne)
theorem MapN.drew {W : World} {b n : Nat} {f : Nat → Nat} (h : MapN W b n f) : MapN W.drew b n f := h
theorem MapN.below' {X W : World} {b n : Nat} {f : Nat → Nat} (hb : Hid (Below X.heap.size X W)) (h : MapN X b n f) : MapN W b n f := h.below hb.out h.lt

theorem MapN.made (W : World) : MapN (W.alloc (.map #[] 0)) W.heap.size 0 (fun _ => 0) := by
  refine ⟨.map [], World.ownsMap_made _ _ _ _, fun k _ => ?_, fun k _ => ?_, fun _ _ => Nat.le_refl _⟩
  · rfl
  · rfl

theorem keyU (k : Nat) (hk : k < 2 ^ 64) : keyOf Try.prog 22 (.int .u64 (k : Nat)) = some (.int .u64 (k : Nat)) :=
  keyOf_int_mk Try.underlying22 (by simp [Lit.wf, IntKind.min, IntKind.max, IntKind.signed, IntKind.bits]; omega)

theorem MapN.put {W : World} {b n n' : Nat} {f : Nat → Nat} {D : DataW Unit} {k y : Nat} (hD : W.ownsMap Try.prog 22 (plainElem Try.prog 3) b n' (D.put (.int .u64 (k : Nat)) (.lit (.int .i64 (y : Nat)))))
    (hi : IsMap D) (hk : k < 2 ^ 64) (hy : 0 < y) (hyn : y ≤ n') (hn : n ≤ n') (h1 : ∀ k, k < 2 ^ 64 → D.atKey (.int .u64 (k : Nat)) (.lit (.int .i64 0)) = .lit (.int .i64 (f k : Nat)))
    (h2 : ∀ k, k < 2 ^ 64 → Maps.has D (.int .u64 (k : Nat)) = decide (0 < f k)) (h3 : ∀ k, k < 2 ^ 64 → f k ≤ n) : MapN W b n' (fun j => if j = k then y else f j) := by
  refine ⟨_, hD, fun j hj => ?_, fun j hj => ?_, fun j hj => ?_⟩
  · by_cases e : j = k
    · subst e; rw [atKey_put_same hi (k := .int .u64 (j : Nat)) trivial]; simp
    · rw [atKey_put_other (fun h => e (by simp at h; omega))]
      simp only [e, if_false]; exact h1 j hj
  · by_cases e : j = k
    · subst e; rw [has_put_same hi (k := .int .u64 (j : Nat)) trivial]; simp [hy]
    · rw [has_put_other (fun h => e (by simp at h; omega))]
      simp only [e, if_false]; exact h2 j hj
  · show (if j = k then y else f j) ≤ n'
    split
    · exact hyn
    · exact Nat.le_trans (h3 j hj) hn

section
variable {ops : Array Oper} {rest : List Oper} {o : Oper} {a : Act} {w : World} {Q : Exit → Act → World → Prop} {b n : Nat} {f : Nat → Nat}

theorem MapN.look (hM : MapN w b n f) (k : Nat) (hk : k < 2 ^ 64) (hg : o.guard = none) (m x : Operand) (hop : o.op = Op.lookup 98 m x false) (hm : a.eval m = .map (some b)) (hx : a.eval x = .int .u64 (k : Nat))
    (h : wpList Try.prog ops Q rest (a.put o.dst (.int .i64 (f k : Nat))) w) : wpList Try.prog ops Q (o :: rest) a w := by
  obtain ⟨D, hown, h1, h2, h3⟩ := hM
  refine wpList_lookup_own_int _ hg m x _ hop 22 3 .i64 keyedU setT Try.underlying3 (zeroInt _) b n _ hm hown _ _ hx (keyU k hk) ?_
  intro c hat _
  rw [h1 k hk] at hat
  cases hat
  exact h

theorem MapN.store (hM : MapN w b n f) (k y : Nat) (hk : k < 2 ^ 64) (hy : 0 < y) (hyn : y ≤ n + 1) (hn : n < 2 ^ 62) (hg : o.guard = none) (m x v : Operand) (hop : o.op = Op.mapUpdate 98 m x v) (hm : a.eval m = .map (some b)) (hx : a.eval x = .int .u64 (k : Nat)) (hv : a.eval v = .int .i64 (y : Nat))
    (h : ∀ w', MapN w' b (n + 1) (fun j => if j = k then y else f j) → w.grownBy w' (some b) → wpList Try.prog ops Q rest (a.put o.dst undef) w') : wpList Try.prog ops Q (o :: rest) a w := by
  obtain ⟨D, hown, h1, h2, h3⟩ := hM
  refine wpList_mapUpdate_own _ hg m x v _ hop 22 3 keyedU setT _ b n _ hm hown (by unfold maxLen; omega) _ _ _ hx hv (keyU k hk) _ [] (plainElem_int Try.underlying3 (WalkArith.wf_i64 (by omega))) ?_
  intro w' hown' hgrow
  exact h w' (MapN.put hown' (hown.tidy keyedU).isMap hk hy hyn (Nat.le_succ n) h1 h2 h3) hgrow

variable {F : Fence} {nF : Nat}
theorem MapN.lookIn (hM : MapN w b n f) (k : Nat) (hk : k < 2 ^ 64) (hg : o.guard = none) (m x : Operand) (hop : o.op = Op.lookup 98 m x false) (hm : a.eval m = .map (some b)) (hx : a.eval x = .int .u64 (k : Nat))
    (h : wpListIn F nF Try.prog ops Q rest (a.put o.dst (.int .i64 (f k : Nat))) w) : wpListIn F nF Try.prog ops Q (o :: rest) a w := by
  obtain ⟨D, hown, h1, h2, h3⟩ := hM
  refine wpListIn_lookup_own_int _ hg m x _ hop 22 3 .i64 keyedU setT Try.underlying3 (zeroInt _) b n _ hm hown _ _ hx (keyU k hk) ?_
  intro c hat _
  rw [h1 k hk] at hat
  cases hat
  exact h

theorem MapN.storeIn (hM : MapN w b n f) (k y : Nat) (hk : k < 2 ^ 64) (hy : 0 < y) (hyn : y ≤ n + 1) (hn : n < 2 ^ 62) (hg : o.guard = none) (m x v : Operand) (hop : o.op = Op.mapUpdate 98 m x v) (hm : a.eval m = .map (some b)) (hx : a.eval x = .int .u64 (k : Nat)) (hv : a.eval v = .int .i64 (y : Nat))
    (h : ∀ w', MapN w' b (n + 1) (fun j => if j = k then y else f j) → w.grownBy w' (some b) → wpListIn F nF Try.prog ops Q rest (a.put o.dst undef) w') : wpListIn F nF Try.prog ops Q (o :: rest) a w := by
  obtain ⟨D, hown, h1, h2, h3⟩ := hM
  refine wpListIn_mapUpdate_own _ hg m x v _ hop 22 3 keyedU setT _ b n _ hm hown (by unfold maxLen; omega) _ _ _ hx hv (keyU k hk) _ [] (plainElem_int Try.underlying3 (WalkArith.wf_i64 (by omega))) ?_
  intro w' hown' hgrow
  exact h w' (MapN.put hown' (hown.tidy keyedU).isMap hk hy hyn (Nat.le_succ n) h1 h2 h3) hgrow
end
end Go.Proofs.Ytcfpgcejahfdfab

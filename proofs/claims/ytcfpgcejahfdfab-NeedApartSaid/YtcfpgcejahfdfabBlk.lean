/- Blocks through a walk; sizes; a world made a variable. -/
import Derived.Test.YtcfpgcejahfdfabBase
namespace Go.Proofs.Ytcfpgcejahfdfab
open Go.RowKit
set_option linter.unusedVariables false
set_option linter.unusedSimpArgs false

/-- What lies below a size lies below what is made behind it. -/
theorem lt_up {b n : Nat} (h : b < n) : b < n ∧ b < n + 1 ∧ b < n + 1 + 1 ∧ b < n + 1 + 1 + 1 ∧ b < n + 2 ∧ b < n + 3 := by omega
theorem ne_up {b n : Nat} (h : b < n) : ¬ b = n ∧ ¬ b = n + 1 ∧ ¬ b = n + 1 + 1 ∧ ¬ b = n + 2 ∧ ¬ n = b ∧ ¬ n + 1 = b ∧ ¬ n + 1 + 1 = b ∧ ¬ n + 2 = b := by omega
/-! A block through what a walk does: for the word blk. -/
theorem Blk.new' {W : World} {cs cs' : Array Value} {T : TypeId} {b : Nat} (hb : b = W.heap.size) (e : cs = cs') : Blk (W.alloc (.cells cs T)) b cs' T := by subst hb; subst e; exact Blk.new W cs T
theorem Blk.alloc' {W : World} {b : Nat} {cs : Array Value} {T : TypeId} {o : Obj} (h : Blk W b cs T) : Blk (W.alloc o) b cs T := h.alloc o
theorem Blk.drew' {W : World} {b : Nat} {cs : Array Value} {T : TypeId} (h : Blk W b cs T) : Blk W.drew b cs T := h
theorem Blk.drewN' {W : World} {b : Nat} {cs : Array Value} {T : TypeId} {n : Nat} (h : Blk W b cs T) : Blk (W.drewN n) b cs T := h
theorem Blk.set_of {W : World} {b j : Nat} {cs cs' : Array Value} {T : TypeId} {v : Value} (h : Blk W b cs T) (e : cs.setIfInBounds j v = cs') : Blk (W.setCell ⟨b, j, none⟩ v) b cs' T := by subst e; exact h.set j v
theorem Blk.other' {W : World} {b : Nat} {cs : Array Value} {T : TypeId} {a : Addr} {v : Value} (hne : ¬ b = a.block) (h : Blk W b cs T) : Blk (W.setCell a v) b cs T := h.other hne v
theorem Blk.below' {X W : World} {b : Nat} {cs : Array Value} {T : TypeId} (hb : Hid (Below X.heap.size X W)) (h : Blk X b cs T) : Blk W b cs T := h.below hb.out h.lt
theorem bl_step' {w X W : World} (h2 : Hid (Below X.heap.size X W)) (h : Below w.heap.size w X) : Below w.heap.size w W := bl_step h h2.out

/-- A world made a variable, with what is known of it. -/
theorem wp_name {P : Program} {c : Code} {Q : Exit → Act → World → Prop} {a : Act} {W : World} (R : World → Prop) (hR : R W) (h : ∀ X, R X → c.wp P Q a X) : c.wp P Q a W := h W hR
end Go.Proofs.Ytcfpgcejahfdfab

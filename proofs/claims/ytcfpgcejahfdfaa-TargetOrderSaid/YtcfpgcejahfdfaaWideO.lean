/- Words made opaque; sizes. -/
import Derived.Test.YtcfpgcejahfdfaaWideM
import Derived.Test.YtcfpgcejahfdfaaBase
namespace Go.Proofs.Ytcfpgcejahfdfaa
open Go.RowKit
set_option linter.unusedVariables false
set_option linter.unusedSimpArgs false

/-- A number's words, made opaque. -/
theorem wd_opaque (N : Nat) : ∃ x0 x1 x2 x3 : Nat, Hid (limb 0 N = x0 ∧ limb 1 N = x1 ∧ limb 2 N = x2 ∧ limb 3 N = x3) := ⟨_, _, _, _, rfl, rfl, rfl, rfl⟩
theorem wd_opaque_eq {N x0 x1 x2 x3 : Nat} (h : Hid (limb 0 N = x0 ∧ limb 1 N = x1 ∧ limb 2 N = x2 ∧ limb 3 N = x3)) : Value.agg #[.int .u64 (x0 : Nat), .int .u64 (x1 : Nat), .int .u64 (x2 : Nat), .int .u64 (x3 : Nat)] = wd N := by
  obtain ⟨rfl, rfl, rfl, rfl⟩ := h.out; rfl

theorem wd_one : Value.agg #[.int .u64 1, .int .u64 0, .int .u64 0, .int .u64 0] = wd 1 := by
  obtain ⟨a, b, c, d⟩ := limb_small 1 (by decide)
  simp only [wd, a, b, c, d]; rfl

/-- What lies below a size lies below what is made behind it. -/
theorem lt_up {b n : Nat} (h : b < n) : b < n ∧ b < n + 1 ∧ b < n + 1 + 1 ∧ b < n + 1 + 1 + 1 ∧ b < n + 2 ∧ b < n + 3 := by omega
theorem ne_up {b n : Nat} (h : b < n) : ¬ b = n ∧ ¬ b = n + 1 ∧ ¬ b = n + 1 + 1 ∧ ¬ b = n + 2 ∧ ¬ n = b ∧ ¬ n + 1 = b ∧ ¬ n + 1 + 1 = b ∧ ¬ n + 2 = b := by omega
/-! A block through what a walk does: for the word blk. -/
theorem Blk.new' {W : World} {cs cs' : Array Value} {T : TypeId} {b : Nat} (hb : b = W.heap.size) (e : cs = cs') : Blk (W.alloc (.cells cs T)) b cs' T := by subst hb; subst e; exact Blk.new W cs T
theorem Blk.alloc' {W : World} {b : Nat} {cs : Array Value} {T : TypeId} {o : Obj} (h : Blk W b cs T) : Blk (W.alloc o) b cs T := h.alloc o
theorem Blk.drew' {W : World} {b : Nat} {cs : Array Value} {T : TypeId} (h : Blk W b cs T) : Blk W.drew b cs T := h
theorem Blk.drewN' {W : World} {b : Nat} {cs : Array Value} {T : TypeId} {n : Nat} (h : Blk W b cs T) : Blk (W.drewN n) b cs T := h
theorem Blk.set_of {W : World} {b j : Nat} {cs cs' : Array Value} {T : TypeId} {v : Value} (h : Blk W b cs T) (e : cs.setIfInBounds j v = cs') : Blk (W.setCell ⟨b, j, none⟩ v) b cs' T := by subst e; exact h.set j v
theorem Blk.other' {W : World} {b : Nat} {cs : Array Value} {T : TypeId} {a : Addr} {v : Value} (hne : ¬ b = a.block) (h : Blk W b cs T) : Blk (W.setCell a v) b cs T := h.other hne v
theorem Blk.below' {X W : World} {b : Nat} {cs : Array Value} {T : TypeId} (hb : Hid (Below X.heap.size X W)) (h : Blk X b cs T) : Blk W b cs T := h.below hb.out h.lt
theorem bl_step' {w X W : World} (h2 : Hid (Below X.heap.size X W)) (h : Below w.heap.size w X) : Below w.heap.size w W := bl_step h h2.out

/-- Four words as values. -/
def wv (x0 x1 x2 x3 : Nat) : Array Value := #[.int .u64 (x0 : Nat), .int .u64 (x1 : Nat), .int .u64 (x2 : Nat), .int .u64 (x3 : Nat)]
theorem Blk.wide {W : World} {b : Nat} {x0 x1 x2 x3 : Nat} {T : TypeId} (h : Blk W b (wv x0 x1 x2 x3) T) :
    (W.cell? ⟨b, 0, none⟩ = some (.int .u64 (x0 : Nat)) ∧ W.cell? ⟨b, 1, none⟩ = some (.int .u64 (x1 : Nat)) ∧ W.cell? ⟨b, 2, none⟩ = some (.int .u64 (x2 : Nat)) ∧ W.cell? ⟨b, 3, none⟩ = some (.int .u64 (x3 : Nat))) ∧
    (W.frozen? ⟨b, 0, none⟩ = false ∧ W.frozen? ⟨b, 1, none⟩ = false ∧ W.frozen? ⟨b, 2, none⟩ = false ∧ W.frozen? ⟨b, 3, none⟩ = false) :=
  ⟨⟨h.cell 0, h.cell 1, h.cell 2, h.cell 3⟩, ⟨h.frozen 0, h.frozen 1, h.frozen 2, h.frozen 3⟩⟩

/-- A world made a variable, with what is known of it. -/
theorem wp_name {P : Program} {c : Code} {Q : Exit → Act → World → Prop} {a : Act} {W : World} (R : World → Prop) (hR : R W) (h : ∀ X, R X → c.wp P Q a X) : c.wp P Q a W := h W hR
end Go.Proofs.Ytcfpgcejahfdfaa

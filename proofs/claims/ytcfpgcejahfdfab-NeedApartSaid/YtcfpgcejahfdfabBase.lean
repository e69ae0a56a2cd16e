/- Small words that the walks share. -/
import Derived.Test.YtcfpgcejahfdfabProg
import Derived.WalkKit
import Derived.WalkSpells
import Derived.WalkLawsBesides
import Derived.Deep.QuietTactic
import Derived.BigQuiet
import Derived.Lib.Hide
import Derived.Deep.RegionWith
import Derived.Deep.RegionHeld3
import Derived.Deep.DeepCutAuto
import Derived.Deep.CutBlock
import Derived.Deep.LoopGhost
import Derived.OrdersHeld
namespace Go.Proofs.Ytcfpgcejahfdfab
open Go.RowKit
set_option linter.unusedVariables false
set_option linter.unusedSimpArgs false

theorem ret1 {a b : Value} (h : a = b) : Ending.returned a = Ending.returned b := by rw [h]
theorem ret2 {a b c d : Value} (h : a = b) (g : c = d) : Ending.returned (.tuple #[a, c]) = Ending.returned (.tuple #[b, d]) := by rw [h, g]
theorem ret3 {a b c d e f : Value} (h : a = b) (g : c = d) (i : e = f) : Ending.returned (.tuple #[a, c, e]) = Ending.returned (.tuple #[b, d, f]) := by rw [h, g, i]
theorem ival {k : IntKind} {a b : Int} (h : a = b) : Value.int k a = .int k b := by rw [h]
theorem bval {a b : Bool} (h : a = b) : Value.bool a = .bool b := by rw [h]

theorem bcell {W w1 : World} (hb : Below W.heap.size W w1) : (∀ b o, b < W.heap.size → w1.cell? ⟨b, o, none⟩ = W.cell? ⟨b, o, none⟩) ∧ (∀ b o, b < W.heap.size → w1.frozen? ⟨b, o, none⟩ = W.frozen? ⟨b, o, none⟩) :=
  ⟨fun b o h => hb.cell (p := ⟨b, o, none⟩) h, fun b o h => hb.frozen (p := ⟨b, o, none⟩) h⟩

theorem below_drewN (B : Nat) (w : World) (k : Nat) : Below B w (w.drewN k) := ⟨rfl, rfl, rfl, Nat.le_refl _, fun _ _ => rfl⟩

theorem below_app {B : Nat} {w wr w1 : World} {e : TypeId} {size : Nat} {v : Value} {n : Nat} {xs : List Value} (hB : Below B w wr) (hs : B ≤ wr.heap.size) (hown : wr.ownsRow B e size v n xs) (o : Obj)
    (hg : (wr.alloc o).grownBy w1 v.ownBlock) : Below B w w1 :=
  (hB.alloc hs o).grown hg (by simp; omega) (fun k hk => (hown.lt k hk).1)

theorem one_news (w : World) (u : Value) (T : TypeId) (fr : Nat × Nat) : ∀ j x, [u][j]? = some x → (w.alloc (.cells #[u] T fr)).cell? ((⟨w.heap.size, 0, none⟩ : Addr).add j) = some x := by
  intro j x h
  match j, h with
  | 0, h =>
    simp at h; subst h
    simp only [Addr.add, if_true]
    rw [World.cell?_alloc_mark]; rfl

/-! How a world lies over the one at the call's start, step by step. -/
theorem bl_drewN {w W : World} {k : Nat} (h : Below w.heap.size w W) : Below w.heap.size w (W.drewN k) := h.trans (below_drewN _ _ _)
theorem bl_drew {w W : World} (h : Below w.heap.size w W) : Below w.heap.size w W.drew := h.drew
theorem bl_alloc {w W : World} {o : Obj} (h : Below w.heap.size w W) : Below w.heap.size w (W.alloc o) := h.alloc h.size o
theorem bl_set {w W : World} {a : Addr} {v : Value} (ha : w.heap.size ≤ a.block) (h : Below w.heap.size w W) : Below w.heap.size w (W.setCell a v) := h.setCell ha v
theorem bl_step {w X W : World} (h : Below w.heap.size w X) (h2 : Below X.heap.size X W) : Below w.heap.size w W := h.trans (h2.mono h.size)

/-- A block known whole, not frozen. -/
def Blk (W : World) (b : Nat) (cs : Array Value) (T : TypeId) : Prop := W.heap[b]? = some (.cells cs T (0, 0))
theorem Blk.cell {W : World} {b : Nat} {cs : Array Value} {T : TypeId} (h : Blk W b cs T) (j : Nat) : W.cell? ⟨b, j, none⟩ = cs[j]? := by simp [World.cell?, show W.heap[b]? = _ from h]
theorem Blk.frozen {W : World} {b : Nat} {cs : Array Value} {T : TypeId} (h : Blk W b cs T) (j : Nat) : W.frozen? ⟨b, j, none⟩ = false := by simp [World.frozen?, show W.heap[b]? = _ from h]
theorem Blk.lt {W : World} {b : Nat} {cs : Array Value} {T : TypeId} (h : Blk W b cs T) : b < W.heap.size := (Array.getElem?_eq_some_iff.1 h).1
theorem Blk.alloc {W : World} {b : Nat} {cs : Array Value} {T : TypeId} (h : Blk W b cs T) (o : Obj) : Blk (W.alloc o) b cs T := (Below.heap_alloc W o b h.lt).trans h
theorem Blk.new (W : World) (cs : Array Value) (T : TypeId) : Blk (W.alloc (.cells cs T)) W.heap.size cs T := by
  show (W.heap.push _)[W.heap.size]? = _
  simp
theorem Blk.drew {W : World} {b : Nat} {cs : Array Value} {T : TypeId} (h : Blk W b cs T) : Blk W.drew b cs T := h
theorem Blk.drewN {W : World} {b : Nat} {cs : Array Value} {T : TypeId} (h : Blk W b cs T) (n : Nat) : Blk (W.drewN n) b cs T := h
theorem Blk.other {W : World} {b : Nat} {cs : Array Value} {T : TypeId} (h : Blk W b cs T) {a : Addr} (hne : b ≠ a.block) (v : Value) : Blk (W.setCell a v) b cs T := (Below.heap_setCell W a v b hne).trans h
theorem Blk.below {W W' : World} {b B : Nat} {cs : Array Value} {T : TypeId} (h : Blk W b cs T) (hb : Below B W W') (hlt : b < B) : Blk W' b cs T := (hb.block b hlt).trans h
theorem Blk.set {W : World} {b : Nat} {cs : Array Value} {T : TypeId} (h : Blk W b cs T) (j : Nat) (v : Value) : Blk (W.setCell ⟨b, j, none⟩ v) b (cs.setIfInBounds j v) T := by
  obtain ⟨hlt, hk⟩ := Array.getElem?_eq_some_iff.1 h
  show (W.heap.modify b _)[b]? = _
  rw [Array.getElem?_eq_getElem (by rw [Array.size_modify]; exact hlt), Array.getElem_modify_self, hk]
  rfl

/-- Below, with the size at hand: no side goal at a new block. -/
def Up (B : Nat) (w W : World) : Prop := Below B w W ∧ B ≤ W.heap.size
theorem up_refl {B : Nat} {w : World} (h : B ≤ w.heap.size) : Up B w w := ⟨Below.refl _ _, h⟩
theorem up_alloc {B : Nat} {w W : World} {o : Obj} (h : Up B w W) : Up B w (W.alloc o) := ⟨h.1.alloc h.2 o, by have := h.2; simp; omega⟩
theorem up_drew {B : Nat} {w W : World} (h : Up B w W) : Up B w W.drew := ⟨h.1.drew, h.2⟩
theorem up_drewN {B : Nat} {w W : World} {n : Nat} (h : Up B w W) : Up B w (W.drewN n) := ⟨h.1.trans (below_drewN _ _ _), h.2⟩
theorem up_set {B : Nat} {w W : World} {a : Addr} {v : Value} (ha : B ≤ a.block) (h : Up B w W) : Up B w (W.setCell a v) := ⟨h.1.setCell ha v, by have := h.2; simp [World.setCell]; omega⟩
theorem up_step {B : Nat} {w X W : World} (h : Up B w X) (h2 : Below X.heap.size X W) : Up B w W := ⟨h.1.trans (h2.mono h.2), Nat.le_trans h.2 h2.size⟩
theorem Up.cell {B : Nat} {w W : World} (h : Up B w W) {a : Addr} {u : Value} (hc : w.cell? a = some u) (ha : a.block < B) : W.cell? a = some u := (h.1.cell ha).trans hc
theorem Up.frozen {B : Nat} {w W : World} (h : Up B w W) {a : Addr} {b : Bool} (hc : w.frozen? a = b) (ha : a.block < B) : W.frozen? a = b := (h.1.frozen ha).trans hc
theorem Up.blk {B : Nat} {w W : World} (h : Up B w W) {b : Nat} {cs : Array Value} {T : TypeId} (hb : Blk w b cs T) (hlt : b < B) : Blk W b cs T := hb.below h.1 hlt

end Go.Proofs.Ytcfpgcejahfdfab

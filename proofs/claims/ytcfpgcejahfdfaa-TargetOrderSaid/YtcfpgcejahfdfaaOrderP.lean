/- What the walk of TargetOrder and its regions share. -/
import Derived.Test.YtcfpgcejahfdfaaWideE
import Derived.Test.YtcfpgcejahfdfaaWideO
import Derived.Test.YtcfpgcejahfdfaaOrderM
import Derived.Deep.RegionHeld3
import Derived.Deep.DeepCutAuto
import Derived.Deep.CutBlock
namespace Go.Proofs.Ytcfpgcejahfdfaa
open Go.RowKit
set_option linter.unusedVariables false
set_option linter.unusedSimpArgs false

theorem Blk.three {W : World} {b : Nat} {x0 x1 x2 : Value} {T : TypeId} (h : Blk W b #[x0, x1, x2] T) : W.cell? ⟨b, 0, none⟩ = some x0 ∧ W.cell? ⟨b, 1, none⟩ = some x1 ∧ W.cell? ⟨b, 2, none⟩ = some x2 := ⟨h.cell 0, h.cell 1, h.cell 2⟩
theorem Blk.cell' {W : World} {b j : Nat} {cs : Array Value} {T : TypeId} {v : Value} (h : Blk W b cs T) (e : cs[j]? = some v) : W.cell? ⟨b, j, none⟩ = some v := (h.cell j).trans e
theorem Blk.range {W : World} {b : Nat} {H : Array Value} {T : TypeId} (h : Blk W b H T) : W.rangeAt b 0 H.toList := fun j v hv => by
  rw [h.cell (0 + j)]; simpa using hv

/-- What lies in memory all along: the arguments, the two targets. -/
structure OM (w : World) (c0 c1 c2 : Nat) (H : Array Value) (b5 b7 a0 a1 a2 a3 d0 d1 d2 d3 : Nat) (W : World) : Prop where
  kc : Blk W w.heap.size #[.int .u32 (c0 : Nat), .int .u32 (c1 : Nat), .int .u32 (c2 : Nat)] 40
  kh : Blk W (w.heap.size + 1) H 42
  k5 : Blk W b5 (wv a0 a1 a2 a3) 44
  k7 : Blk W b7 (wv d0 d1 d2 d3) 44
  below : Below w.heap.size w W
end Go.Proofs.Ytcfpgcejahfdfaa

/- TargetOrder is proved: of any two bits a smaller target is no less work, and whoever meets one meets a greater one; whatever the memory and the order. No condition. -/
import Derived.Test.YtcfpgcejahfdfaaRows
import Derived.Test.YtcfpgcejahfdfaaOrderW
import Derived.ProofKit
import Derived.OpenShut
import Derived.Laws.IdiomArrays
import Derived.ChangeOld
import Derived.Below
namespace Go.Proofs.Ytcfpgcejahfdfaa.TargetOrder
open Go.ChangeShapes Go.WideShapes Go.ChangeAt Go.RowKit
set_option linter.unusedVariables false

theorem own : ownKnob Try.prog.godebug = none := by kernel_rfl
theorem laidOut : laidOutB Try.prog = true := by kernel_rfl
theorem cells3 : Try.prog.cellsOf 40 = 3 := by kernel_rfl
theorem cells1 : Try.prog.cellsOf 39 = 1 := by kernel_rfl
theorem cells32 : Try.prog.cellsOf 42 = 32 := by kernel_rfl
theorem cellsB : Try.prog.cellsOf 5 = 1 := by kernel_rfl

theorem list3 {α : Type} (l : List α) (h : (⟨l⟩ : Array α).size = 3) : ∃ a b c, l = [a, b, c] := by
  match l, h with
  | [a, b, c], _ => exact ⟨a, b, c, rfl⟩

/-- The number in a cell. -/
def cellN : Option Value → Nat
  | some (.int _ a) => a.toNat
  | _ => 0

theorem u32_nat {n : Int} (h : (Lit.int .u32 n).wf = true) : ∃ c : Nat, c < 2 ^ 32 ∧ n = (c : Int) := by
  obtain ⟨a, b⟩ := bounds_u32 h
  exact ⟨n.toNat, by omega, by omega⟩

set_option maxRecDepth 100000 in
theorem lifted (os : Os) (started : os.Started) (H : Type) (enc : TypeId × Value → H) :
    ReturnsInHanded {} Try.checked os 4 .any (Rows.targetOrderSpec.pre6 enc Try.prog Try.f4 Rows.targetOrderRow.domain false) (Rows.targetOrderSpec.post enc Try.prog Try.f4 false true false false) := by
  refine returnsInHanded_of_change (C := Try.checked) own started (by kernel_rfl) Try.func4
    (ChangeSpec.witness6 (enc := enc) (C := Try.checked) false ⟨#[], #[.agg #[.int .u32 0, .int .u32 0, .int .u32 0], .agg #[.int .u8 0, .int .u8 0, .int .u8 0, .int .u8 0, .int .u8 0, .int .u8 0, .int .u8 0, .int .u8 0, .int .u8 0, .int .u8 0, .int .u8 0, .int .u8 0, .int .u8 0, .int .u8 0, .int .u8 0, .int .u8 0, .int .u8 0, .int .u8 0, .int .u8 0, .int .u8 0, .int .u8 0, .int .u8 0, .int .u8 0, .int .u8 0, .int .u8 0, .int .u8 0, .int .u8 0, .int .u8 0, .int .u8 0, .int .u8 0, .int .u8 0, .int .u8 0]], []⟩ 8 (by kernel_rfl) (by kernel_rfl) (by kernel_rfl) (by kernel_rfl)) ?_
  intro W base args ds gs before hval0 hW hcnd _
  have hval : ∀ (j : Nat) t v, Try.f4.params[j]? = some t → args[j]? = some v → Value.okWide Try.prog W .any base t v := hval0
  have hW' := hW
  obtain ⟨p, q, hA0, hV, rfl, hfz, hnd⟩ := hW
  have hA : DataW.TrodAll enc Try.prog W 0 (fun _ => true) true Try.f4.params.toList args.toList ds p := hA0
  rw [Try.params4] at hA hval
  obtain ⟨v0, vs0, d0, ds0, p0, q0, hargs, rfl, rfl, h0, r0⟩ := trodAll_cons hA
  obtain ⟨v1, vs1, d1, ds1, p1, q1, rfl, rfl, rfl, h1, r1⟩ := trodAll_cons r0
  obtain ⟨rfl, rfl, rfl⟩ := trodAll_nil r1
  obtain rfl : args = #[v0, v1] := by cases args; simp_all
  obtain ⟨rfl, rfl⟩ := trodVars_none hV
  have k0 := h0
  have k1 := h1
  have lt0 : ∀ x ∈ p0, x.block < W.heap.size := by obtain ⟨m, hm⟩ := k0; exact DataW.trod_lt m _ _ _ hm
  have lt1 : ∀ x ∈ p1, x.block < W.heap.size := by obtain ⟨m, hm⟩ := k1; exact DataW.trod_lt m _ _ _ hm
  -- the three bits
  obtain ⟨cs, rfl, hsz, _⟩ : ∃ cs, v0 = .agg cs ∧ cs.size = Try.prog.cellsOf 40 ∧ Row.okWide Try.prog W .any base 40 cs := by
    have := hval 0 40 v0 rfl rfl
    simpa [Value.okWide, Try.underlying40] using this
  rw [cells3] at hsz
  obtain ⟨l⟩ := cs
  obtain ⟨a0, a1, a2, rfl⟩ := list3 l hsz
  obtain ⟨c0, c1, c2, l0, l1, l2, rfl, rfl, rfl⟩ : ∃ c0 c1 c2 : Nat, c0 < 2 ^ 32 ∧ c1 < 2 ^ 32 ∧ c2 < 2 ^ 32 ∧ a0 = .int .u32 (c0 : Nat) ∧ a1 = .int .u32 (c1 : Nat) ∧ a2 = .int .u32 (c2 : Nat) := by
    obtain ⟨fuel, hf⟩ := h0
    obtain ⟨y0, y1, y2, m, hx, hy0, hy1, hy2⟩ := trod_array3 Try.underlying40 cells1 hf
    obtain ⟨x0, e0, _, w0⟩ := DataW.trod_int Try.underlying39 hy0
    obtain ⟨x1, e1, _, w1⟩ := DataW.trod_int Try.underlying39 hy1
    obtain ⟨x2, e2, _, w2⟩ := DataW.trod_int Try.underlying39 hy2
    simp at e0 e1 e2
    obtain ⟨c0, b0, rfl⟩ := u32_nat w0
    obtain ⟨c1, b1, rfl⟩ := u32_nat w1
    obtain ⟨c2, b2, rfl⟩ := u32_nat w2
    exact ⟨c0, c1, c2, b0, b1, b2, e0, e1, e2⟩
  -- the name
  obtain ⟨hs, rfl, hsz1, _⟩ : ∃ cs, v1 = .agg cs ∧ cs.size = Try.prog.cellsOf 42 ∧ Row.okWide Try.prog W .any base 42 cs := by
    have := hval 1 42 v1 rfl rfl
    simpa [Value.okWide, Try.underlying42] using this
  rw [cells32] at hsz1
  have hcell : ∀ j, j < 32 → ∃ a : Nat, a < 256 ∧ hs[j]? = some (.int .u8 (a : Nat)) := fun j hj => by
    obtain ⟨fuel, hf⟩ := h1
    obtain ⟨xs, m, _, _, _, hl, hx⟩ := DataW.trod_array Try.underlying42 hf
    have h2 := hx j hj
    rw [List.getElem?_eq_getElem (by omega)] at h2
    obtain ⟨x, e, _, w0⟩ := DataW.trod_int Try.underlying5 h2
    obtain ⟨b0, b1⟩ := bounds_u8 w0
    refine ⟨x.toNat, by omega, ?_⟩
    rw [cellsB] at e
    simp only [Value.cells, Nat.mul_one] at e
    have e2 : (hs.toList.drop j)[0]? = some (.int .u8 x) := by
      have := congrArg (fun l : List Value => l[0]?) e
      simpa [List.getElem?_take] using this
    rw [List.getElem?_drop] at e2
    rw [← Array.getElem?_toList, show ((x.toNat : Nat) : Int) = x by omega]
    simpa using e2
  clear hA0 hval0
  refine (Order_any (fun j => if j < 32 then cellN hs[j]? else 0) hs hsz1 (fun j hj => by obtain ⟨a, _, e⟩ := hcell j hj; rw [if_pos hj, e]; rfl) (fun j => by
    show (if j < 32 then cellN hs[j]? else 0) < 256
    split
    · next hj => obtain ⟨a, b, e⟩ := hcell j hj; rw [e]; simpa [cellN] using b
    · omega) c0 c1 c2 l0 l1 l2 W).mono fun e W' ⟨he, bel⟩ => ?_
  subst he
  exact ⟨_, rfl, _, _, _, [], _, [], hW', trodAll_mk1 (shut_bool Try.underlying4 _), (trodAll_cons_mk (Below.trod laidOut (by kernel_rfl) (of_decide_eq_true (by kernel_rfl)) k0 bel lt0) (trodAll_cons_mk (Below.trod laidOut (by kernel_rfl) (of_decide_eq_true (by kernel_rfl)) k1 bel lt1) trodAll_mk0)), rfl, bel.frame _, fun h => by cases h⟩

theorem over : Rows.targetOrderRow.holds Try.pinned (OpenSpec.ofChange Rows.targetOrderSpec) :=
  OpenClaim.holds_of_wide 4 Try.f4 rfl rfl rfl rfl rfl rfl rfl ⟨rfl, rfl, rfl, rfl, rfl⟩ rfl rfl rfl rfl rfl (by kernel_rfl) Try.func4 (by kernel_rfl)
    (of_decide_eq_true (by kernel_rfl)) (by unfold Func.isWrapper; first | (rw [if_pos (by decide +kernel)]; kernel_rfl) | (rw [if_neg (by decide +kernel)]; exact ⟨rfl, rfl⟩))
    (fun os started H enc _ => lifted os started H enc)

theorem proved : Rows.TargetOrderSaid :=
  over
#print axioms proved
end Go.Proofs.Ytcfpgcejahfdfaa.TargetOrder

/- NeedApart is proved: moved positions of two positions lie apart where these do, one below the other where one is, and in the same tree as they did; whatever the memory and the order. No condition. -/
import Derived.Test.YtcfpgcejahfdfabRows
import Derived.Test.YtcfpgcejahfdfabApartW
import Derived.ProofKit
import Derived.OpenShut
import Derived.Laws.IdiomArrays
import Derived.ChangeOld
import Derived.Below
namespace Go.Proofs.Ytcfpgcejahfdfab.NeedApart
open Go.ChangeShapes Go.WideShapes Go.ChangeAt Go.RowKit
set_option linter.unusedVariables false

theorem own : ownKnob Try.prog.godebug = none := by kernel_rfl
theorem laidOut : laidOutB Try.prog = true := by kernel_rfl
theorem cells2 : Try.prog.cellsOf 45 = 2 := by kernel_rfl
theorem cells1 : Try.prog.cellsOf 22 = 1 := by kernel_rfl

theorem list2 {α : Type} (l : List α) (h : (⟨l⟩ : Array α).size = 2) : ∃ a b, l = [a, b] := by
  match l, h with
  | [a, b], _ => exact ⟨a, b, rfl⟩

theorem u64_nat {n : Int} (h : (Lit.int .u64 n).wf = true) : ∃ c : Nat, c < 2 ^ 64 ∧ n = (c : Int) := by
  obtain ⟨a, b⟩ := bounds_u64 h
  exact ⟨n.toNat, by omega, by omega⟩

/-- A slice of numbers among the arguments. -/
theorem arg_of {W : World} {a : Addr} {len cap : Nat} {zs : List Int} (hl : len ≤ cap) (hm : cap ≤ maxLen) (hz : zs.length = cap) (hc : ∀ i, i < zs.length → W.cell? (a.add i) = some (.int .u64 (zs.getD i 0))) (hw : ∀ z ∈ zs, (Lit.int .u64 z).wf = true) :
    ∃ ts : List Nat, ts.length = len ∧ (∀ t ∈ ts, t < 2 ^ 64) ∧ ArgAt W (.slice (some a) len cap) ts := by
  refine ⟨(zs.take len).map Int.toNat, by simp; omega, fun t ht => ?_, ?_⟩
  · obtain ⟨z, hzm, rfl⟩ := List.mem_map.1 ht
    obtain ⟨b0, b1⟩ := bounds_u64 (hw z (List.mem_of_mem_take hzm))
    omega
  · by_cases h0 : len = 0
    · subst h0
      exact .inl ⟨_, _, rfl, by simp⟩
    · obtain ⟨b, off, rfl, hcell⟩ := ints_at hc (by omega)
      have hlen : ((zs.take len).map Int.toNat).length = len := by simp; omega
      refine .inr ⟨b, off, cap, by rw [hlen], ?_, by rw [hlen]; unfold maxLen at hm; omega, fun j x hx => ?_⟩
      · obtain ⟨o, ho, _⟩ := heap_of_cell (hcell 0 (by omega))
        exact (Array.getElem?_eq_some_iff.1 ho).1
      · have hj : j < len := by have := (List.getElem?_eq_some_iff.1 hx).1; omega
        rw [hcell j (by omega)]
        rw [List.getElem?_map, List.getElem?_take_of_lt hj, List.getElem?_eq_getElem (by omega)] at hx
        simp only [Option.map_some, Option.some.injEq] at hx
        have hb := bounds_u64 (hw zs[j] (List.getElem_mem _))
        simp only [List.getD, List.getElem?_eq_getElem (show j < zs.length by omega), Option.getD_some]
        rw [← hx]
        show some (Value.int .u64 zs[j]) = some (Value.int .u64 ((zs[j].toNat : Nat) : Int))
        rw [Int.toNat_of_nonneg (by omega)]

set_option maxRecDepth 100000 in
theorem lifted (os : Os) (started : os.Started) (H : Type) (enc : TypeId × Value → H) :
    ReturnsInHanded {} Try.checked os 5 .any (Rows.needApartSpec.pre6 enc Try.prog Try.f5 Rows.needApartRow.domain false) (Rows.needApartSpec.post enc Try.prog Try.f5 false true false false) := by
  refine returnsInHanded_of_change (C := Try.checked) own started (by kernel_rfl) Try.func5
    (ChangeSpec.witness6 (enc := enc) (C := Try.checked) false ⟨#[], #[.int .u64 0, .slice none 0 0, .agg #[.int .u64 0, .int .u64 0]], []⟩ 8 (by kernel_rfl) (by kernel_rfl) (by kernel_rfl) (by kernel_rfl)) ?_
  intro W base args ds gs before hval0 hW hcnd _
  have hval : ∀ (j : Nat) t v, Try.f5.params[j]? = some t → args[j]? = some v → Value.okWide Try.prog W .any base t v := hval0
  have hW' := hW
  obtain ⟨p, q, hA0, hV, rfl, hfz, hnd⟩ := hW
  have hA : DataW.TrodAll enc Try.prog W 0 (fun _ => true) true Try.f5.params.toList args.toList ds p := hA0
  rw [Try.params5] at hA hval
  obtain ⟨v0, vs0, d0, ds0, p0, q0, hargs, rfl, rfl, h0, r0⟩ := trodAll_cons hA
  obtain ⟨v1, vs1, d1, ds1, p1, q1, rfl, rfl, rfl, h1, r1⟩ := trodAll_cons r0
  obtain ⟨v2, vs2, d2, ds2, p2, q2, rfl, rfl, rfl, h2, r2⟩ := trodAll_cons r1
  obtain ⟨rfl, rfl, rfl⟩ := trodAll_nil r2
  obtain rfl : args = #[v0, v1, v2] := by cases args; simp_all
  obtain ⟨rfl, rfl⟩ := trodVars_none hV
  have k0 := h0
  have k1 := h1
  have k2 := h2
  have lt0 : ∀ x ∈ p0, x.block < W.heap.size := by obtain ⟨m, hm⟩ := k0; exact DataW.trod_lt m _ _ _ hm
  have lt1 : ∀ x ∈ p1, x.block < W.heap.size := by obtain ⟨m, hm⟩ := k1; exact DataW.trod_lt m _ _ _ hm
  have lt2 : ∀ x ∈ p2, x.block < W.heap.size := by obtain ⟨m, hm⟩ := k2; exact DataW.trod_lt m _ _ _ hm
  obtain ⟨nn, rfl⟩ := okWide_int Try.underlying22 (hval 0 22 v0 rfl rfl)
  obtain ⟨n, hn, rfl⟩ : ∃ n : Nat, n < 2 ^ 64 ∧ nn = (n : Int) := by
    obtain ⟨fuel, hf⟩ := h0
    obtain ⟨x0, e0, _, w0⟩ := DataW.trod_int Try.underlying22 hf
    obtain ⟨c, hc, hcc⟩ := u64_nat w0
    simp [Value.cells] at e0
    exact ⟨c, hc, by rw [e0]; exact hcc⟩
  obtain ⟨cs, rfl, hsz, _⟩ : ∃ cs, v2 = .agg cs ∧ cs.size = Try.prog.cellsOf 45 ∧ Row.okWide Try.prog W .any base 45 cs := by
    have := hval 2 45 v2 rfl rfl
    simpa [Value.okWide, Try.underlying45] using this
  rw [cells2] at hsz
  obtain ⟨l⟩ := cs
  obtain ⟨x0, x1, rfl⟩ := list2 l hsz
  obtain ⟨a0, a1, l0, l1, rfl, rfl⟩ : ∃ a0 a1 : Nat, a0 < 2 ^ 64 ∧ a1 < 2 ^ 64 ∧ x0 = .int .u64 (a0 : Nat) ∧ x1 = .int .u64 (a1 : Nat) := by
    obtain ⟨fuel, hf⟩ := h2
    obtain ⟨xs, m, _, _, _, hl, hx⟩ := DataW.trod_array Try.underlying45 hf
    have g0 := hx 0 (by decide)
    have g1 := hx 1 (by decide)
    rw [List.getElem?_eq_getElem (by omega)] at g0 g1
    obtain ⟨y0, e0, _, w0⟩ := DataW.trod_int Try.underlying22 g0
    obtain ⟨y1, e1, _, w1⟩ := DataW.trod_int Try.underlying22 g1
    rw [cells1] at e0 e1
    simp [Value.cells] at e0 e1
    obtain ⟨c0, b0, rfl⟩ := u64_nat w0
    obtain ⟨c1, b1, rfl⟩ := u64_nat w1
    exact ⟨c0, c1, b0, b1, e0, e1⟩
  obtain ⟨sa, len, cap, rfl⟩ := okWide_slice Try.underlying23 (hval 1 23 v1 rfl rfl)
  obtain ⟨ts, hlen, hlc, hlm, hts, hv⟩ : ∃ ts : List Nat, ts.length = len ∧ len ≤ cap ∧ len ≤ 9223372036854775807 ∧ (∀ t ∈ ts, t < 2 ^ 64) ∧ ArgAt W (.slice sa len cap) ts := by
    obtain ⟨fuel, hf⟩ := h1
    rcases open_ints Try.underlying23 Try.underlying22 cells1 hf with ⟨hcs, hx⟩ | ⟨a, len', cap', zs, hcs, _, hl, hm, hz, hx, hcell, hwz⟩
    · simp [Value.cells] at hcs
      obtain ⟨rfl, rfl, rfl⟩ := hcs
      exact ⟨[], rfl, Nat.le_refl _, by decide, by simp, .inl ⟨_, _, rfl, rfl⟩⟩
    · simp [Value.cells] at hcs
      obtain ⟨rfl, rfl, rfl⟩ := hcs
      obtain ⟨ts, t1, t2, t3⟩ := arg_of hl hm (by simpa using hz) hcell hwz
      exact ⟨ts, t1, hl, by unfold maxLen at hm; omega, t2, t3⟩
  clear hA0 hval0
  subst hlen
  refine (Apart_any n ts sa cap a0 a1 W hn hts hlm hlc l0 l1 hv).mono fun e W' ⟨he, bel⟩ => ?_
  subst he
  exact ⟨_, rfl, _, _, _, [], _, [], hW', trodAll_mk1 (shut_bool Try.underlying4 _), (trodAll_cons_mk (Below.trod laidOut (by kernel_rfl) (of_decide_eq_true (by kernel_rfl)) k0 bel lt0) (trodAll_cons_mk (Below.trod laidOut (by kernel_rfl) (of_decide_eq_true (by kernel_rfl)) k1 bel lt1) (trodAll_cons_mk (Below.trod laidOut (by kernel_rfl) (of_decide_eq_true (by kernel_rfl)) k2 bel lt2) trodAll_mk0))), rfl, bel.frame _, fun h => by cases h⟩

theorem over : Rows.needApartRow.holds Try.pinned (OpenSpec.ofChange Rows.needApartSpec) :=
  OpenClaim.holds_of_wide 5 Try.f5 rfl rfl rfl rfl rfl rfl rfl ⟨rfl, rfl, rfl, rfl, rfl⟩ rfl rfl rfl rfl rfl (by kernel_rfl) Try.func5 (by kernel_rfl)
    (of_decide_eq_true (by kernel_rfl)) (by unfold Func.isWrapper; first | (rw [if_pos (by decide +kernel)]; kernel_rfl) | (rw [if_neg (by decide +kernel)]; exact ⟨rfl, rfl⟩))
    (fun os started H enc _ => lifted os started H enc)

theorem proved : Rows.NeedApartSaid :=
  over
#print axioms proved
end Go.Proofs.Ytcfpgcejahfdfab.NeedApart

/- slices.Backward at []uint64. -/
import Derived.Test.YtcfpgcejahfdfabIter
namespace Go.Proofs.Ytcfpgcejahfdfab
open Go.RowKit Go.Shelf
attribute [local go_sem] Oper.semAt_some
set_option linter.unusedVariables false
set_option linter.unusedSimpArgs false

/-- What has come of a list from its end on, when k of it are left: places and things. -/
def backT (xs : List Nat) (k : Nat) : List (Nat × Nat) := (((List.range xs.length).drop k).reverse).map fun i => (i, xs.getD i 0)
theorem backT_all (xs : List Nat) : backT xs xs.length = [] := by simp [backT]
theorem backT_step (xs : List Nat) (j x : Nat) (h : xs[j]? = some x) : backT xs j = backT xs (j + 1) ++ [(j, x)] := by
  have hj := (List.getElem?_eq_some_iff.1 h).1
  unfold backT
  rw [List.drop_eq_getElem_cons (by simpa using hj)]
  simp [List.getD_eq_getElem?_getD, h]
theorem backT_prefix (xs : List Nat) : ∀ k, k ≤ xs.length → backT xs k <+: backT xs 0
  | 0, _ => List.prefix_refl _
  | k + 1, h => by
    have hx : xs[k]? = some xs[k] := List.getElem?_eq_getElem (by omega)
    have := backT_step xs k _ hx
    exact List.IsPrefix.trans ⟨_, this.symm⟩ (backT_prefix xs k (by omega))
theorem backT_snd (xs : List Nat) : (backT xs 0).map (·.2) = xs.reverse := by
  unfold backT
  rw [List.drop_zero, List.map_map, List.map_reverse]
  congr 1
  apply List.ext_getElem?
  intro i
  by_cases h : i < xs.length
  · simp [h, List.getD_eq_getElem?_getD]
  · simp [h]

set_option maxHeartbeats 400000 in
theorem backward_any (a : Option Addr) (len cap : Nat) (w : World) :
    Calls Try.prog 57 #[.slice a len cap] w fun e w' =>
      e = .returned (.func (.func 87) #[] #[.pointer (some ⟨w.heap.size, 0, none⟩)]) ∧ w' = w.alloc (.cells #[.slice a len cap] 23) := by
  have hmf : ∀ (fn : Fn) (first cap : Array Value) (w : World), (Instr.makeFunc fn first cap).run Try.prog w = .ok (.func fn first cap) w := fun _ _ _ _ => rfl
  go_enter Try.func57, Try.ntmps57
  go_wp2
  go_ret
  exact ⟨rfl, rfl⟩

set_option maxHeartbeats 1000000 in
theorem backward_iter (v : Value) (xs : List Nat) (bs : Nat) (w0 : World) (hbs : bs < w0.heap.size) (hcs : w0.cell? ⟨bs, 0, none⟩ = some v) (hv : SliceAt w0 v xs) (hll : xs.length ≤ 1125899906842624) :
    Iter Try.prog 87 #[.pointer (some ⟨bs, 0, none⟩)] (fun x : Nat × Nat => #[.int .i64 (x.1 : Int), .int .u64 (x.2 : Int)]) (fun _ => False) (fun b => b = bs ∨ v.ownBlock = some b) (backT xs 0) w0 := by
  intro l J Jx W hW hJ hJx hY h0
  have hcs' := (hW.cell (p := ⟨bs, 0, none⟩) hbs).trans hcs
  have hv' := hv.below hW hv.own_lt
  clear hcs
  have hbl : bs < W.heap.size := Nat.lt_of_lt_of_le hbs hW.size
  refine callsIn_of_wp Try.func87 rfl trivial ?_ rfl
  simp only [Try.ntmps87, List.size_toArray, List.length_cons, List.length_nil, Nat.reduceAdd, Nat.reduceSub, Array.replicate_succ, Array.replicate_zero, List.push_toArray, List.append_toArray, List.nil_append, List.cons_append]
  rcases hv' with ⟨rfl, rfl⟩ | ⟨g, off, cap, rfl, hg, hl, hc⟩
  · gi_wp2
    gi_loopw [3] (fun i wr => i = .int .i64 (-1) ∧ J [] wr) (fun _ _ => 0)
    case atStart => exact ⟨rfl, h0⟩
    case round =>
      obtain ⟨rfl, hj⟩ := hrel
      gi_wp2
      go_end0
      exact ⟨⟨_, rfl⟩, .inl hj⟩
  · obtain ⟨len, hlen⟩ : ∃ n, xs.length = n := ⟨_, rfl⟩
    have h0' : J (backT xs len) W := by rw [← hlen, backT_all]; exact h0
    rw [hlen] at hl hcs' hll
    have HL := Lib.hid hlen
    clear hlen h0 hl
    have hl2 : (len : Int) ≤ 1125899906842624 := by omega
    clear hll
    gi_wp2
    gi_loopw [3] (fun i wr => ∃ k : Nat, k ≤ len ∧ i = .int .i64 ((k : Int) - 1) ∧ wr.cell? ⟨bs, 0, none⟩ = some (.slice (some ⟨g, off, none⟩) len cap) ∧ (∀ j x, xs[j]? = some x → wr.cell? ⟨g, off + j, none⟩ = some (uv x)) ∧ g < wr.heap.size ∧ bs < wr.heap.size ∧ J (backT xs k) wr) (fun i _ => (intOf i + 1).toNat)
    case atStart => exact ⟨len, Nat.le_refl _, rfl, hcs', hc, hg, hbl, h0'⟩
    case round =>
      obtain ⟨k, hk, hi, hcb, hcc, hgl, hbl2, hj⟩ := hrel
      clear hcs' hc
      cases k with
      | zero =>
        obtain rfl := hi
        rw [show ((0 : Nat) : Int) - 1 = -1 from rfl]
        gi_wp2
        go_end0
        exact ⟨⟨_, rfl⟩, .inl hj⟩
      | succ k =>
        have e : ((k + 1 : Nat) : Int) - 1 = (k : Int) := by omega
        rw [e] at hi
        obtain rfl := hi
        clear e
        have hkx : k < xs.length := by rw [HL.out]; exact hk
        obtain ⟨x, hx⟩ : ∃ x, xs[k]? = some x := ⟨_, List.getElem?_eq_getElem hkx⟩
        have htk := backT_step xs k x hx
        have hcell := hcc k x hx
        unfold uv at hcell
        obtain ⟨fn, tmps, assign, body, hy, hRn⟩ := hY (backT xs (k + 1)) (k, x) wr hj (by rw [← htk]; exact backT_prefix xs k (by omega))
        dsimp only at hy
        have HT := Lib.hid htk
        have HX := Lib.hid hx
        have HC := Lib.hid hcc
        have hk1 : (k : Int) < (len : Int) := by omega
        clear htk hx hcc hY hkx
        gi_wp2
        refine hRn.mono ?_
        rintro e W3 (⟨rfl, hJ3, hk3⟩ | ⟨rfl, hJx3⟩)
        · gi_wp2
          go_roundw
          case rel =>
            refine ⟨k, by omega, rfl, (World.cell?_of_block (hk3.read bs (.inl rfl) hbl2)).trans hcb, fun j y hy => ?_, Nat.lt_of_lt_of_le hgl hk3.size, Nat.lt_of_lt_of_le hbl2 hk3.size, by rw [HT.out]; exact hJ3⟩
            exact (World.cell?_of_block (hk3.read g (.inr rfl) hgl)).trans (HC.out j y hy)
          case measure => first | (simp [intOf]; done) | (simp [intOf]; omega)
        · gi_wp2
          refine bodyPost_ret (results_none rfl _ _ _) rfl ?_
          exact ⟨⟨_, rfl⟩, .inr ⟨backT xs (k + 1) ++ [(k, x)], by rw [← HT.out]; exact backT_prefix xs k (by have := HL.out; omega), hJx3⟩⟩
theorem backward_enters (args : Array Value) (w : World) : (callFunc 87 args).run Try.prog w = .ok (.enter 87 args) w := enters_of Try.func87 (by kernel_rfl) rfl args w
end Go.Proofs.Ytcfpgcejahfdfab

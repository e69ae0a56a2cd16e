/- slices.Sorted over whatever iterator; rising: a map's keys, in order. -/
import Derived.Test.YtcfpgcejahfdfabSortB
import Derived.Test.YtcfpgcejahfdfabCollect
namespace Go.Proofs.Ytcfpgcejahfdfab
open Go.RowKit Go.Sort Go.Maps Go.Shelf
set_option linter.unusedVariables false
set_option linter.unusedSimpArgs false

theorem holds_of_blockN {w : World} {g : Nat} {cur : Array Value} {e : TypeId} {xs : List Nat} (hb : w.heap[g]? = some (.cells cur e (0, 0))) (ht : cur.toList.take xs.length = xs.map uv) : Holds uv w g 0 xs.toArray := by
  intro j hj
  have hj' : j < xs.length := by simpa using hj
  refine ⟨?_, by simp [World.frozen?, hb]⟩
  have h1 : (cur.toList.take xs.length)[j]? = (xs.map uv)[j]? := by rw [ht]
  rw [List.getElem?_take_of_lt hj'] at h1
  simp only [World.cell?, hb, Nat.zero_add]
  simp only [Option.isSome_none, Bool.false_eq_true, if_false]
  rw [← Array.getElem?_toList, h1]
  simp [hj']

theorem heap_sortedN {w : World} {g n : Nat} {os : Array Obj} {cur : Array Value} {e : TypeId} {fr : Nat × Nat} (d : Array Nat) (hb : w.heap[g]? = some (.cells cur e fr)) :
    (grow (putRow uv (Sort.ahead w n) g 0 d) os).heap[g]? = some (.cells (putCells uv 0 d cur) e fr) := by
  have hg : g < w.heap.size := (Array.getElem?_eq_some_iff.1 hb).1
  rw [heap_grow_old _ _ (by simpa using hg)]
  simp [putRow, mapBlock, Sort.ahead, Array.getElem?_modify, hb, onCells]

theorem grownBy_sortedN {w : World} {g n : Nat} {os : Array Obj} (d : Array Nat) : w.grownBy (grow (putRow uv (Sort.ahead w n) g 0 d) os) (some g) := by
  refine ⟨rfl, rfl, rfl, by simp, fun k hk hne => ?_⟩
  rw [heap_grow_old _ _ (by simpa using hk)]
  have : g ≠ k := fun e => hne (by rw [e])
  simp [putRow, mapBlock, Sort.ahead, Array.getElem?_modify, this]

theorem take_putCellsN (cur : Array Value) (ts : List Nat) (h : ts.length ≤ cur.size) : (putCells uv 0 ts.toArray cur).toList.take ts.length = ts.map uv := by
  apply List.ext_getElem?
  intro j
  by_cases hj : j < ts.length
  · rw [List.getElem?_take_of_lt hj, Array.getElem?_toList]
    simp [putCells, hj, show j < cur.size by omega]
  · rw [List.getElem?_take_eq_none (by omega), List.getElem?_eq_none (by simp; omega)]

theorem ownsRow_sortedN {w : World} {base g cap n : Nat} {e : TypeId} {os : Array Obj} {cur : Array Value} {xs ts : List Nat} (hl : ts.length = xs.length) (hbase : base ≤ g) (hb : w.heap[g]? = some (.cells cur e (0, 0)))
    (h1 : xs.length ≤ cap) (h2 : cap ≤ maxLen) (h3 : cur.size = cap * 1) :
    (grow (putRow uv (Sort.ahead w n) g 0 ts.toArray) os).ownsRow base e 1 (.slice (some ⟨g, 0, none⟩) xs.length cap) xs.length (ts.map uv) :=
  ⟨by simp [hl], .inr ⟨g, cap, _, rfl, hbase, heap_sortedN _ hb, h1, h2, by simp [putCells, h3], by rw [Nat.mul_one, ← hl]; exact take_putCellsN cur ts (by omega)⟩⟩

/-! Of no element nothing is read. -/
set_option maxHeartbeats 400000 in
theorem insertion_none (p : Option Addr) (cap : Nat) (w : World) :
    Calls Try.prog 114 #[.slice p 0 cap, .int .i64 0, .int .i64 0] w fun e w' => e = .returned (.tuple #[]) ∧ w' = w := by
  go_enter Try.func114, Try.ntmps114
  go_wp2
  refine wp_loop_rounds 1 ?_
  rw [rounds_succ]
  go_wp2
  go_end0
  exact ⟨rfl, rfl⟩
set_option maxRecDepth 100000 in
set_option maxHeartbeats 1000000 in
theorem pdq_none (p : Option Addr) (cap : Nat) (w : World) :
    Calls Try.prog 110 #[.slice p 0 cap, .int .i64 0, .int .i64 0, .int .i64 0] w fun e w' => e = .returned (.tuple #[]) ∧ w' = w := by
  go_enter Try.func110, Try.ntmps110
  go_wp2
  refine wp_loop_rounds 1 ?_
  rw [rounds_succ]
  go_wp2_with (go_at_call 114; refine (insertion_none p cap _).mono ?_; rintro e w' ⟨rfl, rfl⟩)
  refine bodyPost_ret (results_none rfl _ _ _) rfl ?_
  exact ⟨rfl, rfl⟩
set_option maxHeartbeats 1000000 in
theorem sort_none (p : Option Addr) (cap : Nat) (w : World) :
    Calls Try.prog 101 #[.slice p 0 cap] w fun e w' => e = .returned (.tuple #[]) ∧ w' = w := by
  have hLen : ∀ w, Calls Try.prog 111 #[.int .u64 0] w fun e w' => e = .returned (.int .i64 0) ∧ w' = w := fun w => Try.bits_Len 0 w (by omega) (by omega)
  go_enter Try.func101, Try.ntmps101
  go_wp2_with (first
    | (go_at_call 111; refine (hLen _).mono ?_; rintro e w' ⟨rfl, rfl⟩)
    | (go_at_call 110; refine (pdq_none p cap _).mono ?_; rintro e w' ⟨rfl, rfl⟩))
  go_end0
  exact ⟨rfl, rfl⟩

/-- slices.Sort of a row of the call's own: the row, sorted. -/
theorem sort_row {N base : Nat} {v : Value} {xs : List Nat} {w : World} (hS : SortsC N) (hrow : w.ownsRow base 22 1 v xs.length (xs.map uv)) (hn : xs.length ≤ N) (hl : xs.length < 4611686018427387904) :
    Calls Try.prog 101 #[v] w fun e W => e = .returned (.tuple #[]) ∧ W.ownsRow base 22 1 v (sortN xs).length ((sortN xs).map uv) ∧ w.grownBy W v.ownBlock := by
  rcases hrow with ⟨hlen, ⟨rfl, h0⟩ | ⟨g, cap, cur, rfl, hg, hb, hn1, hcap, hsz, htk⟩⟩
  · have h0' : xs.length = 0 := by first | exact h0 | omega
    obtain rfl : xs = [] := List.length_eq_zero_iff.1 h0'
    refine (sort_none none 0 w).mono ?_
    rintro e W ⟨rfl, rfl⟩
    exact ⟨rfl, by simpa [sortN] using World.ownsRow_nil _ _ _ _, World.grownBy.refl _ _⟩
  · have hg2 : g < w.heap.size := (Array.getElem?_eq_some_iff.1 hb).1
    refine (hS g 0 cap xs w (holds_of_blockN hb (by simpa using htk)) hg2 hn hl).mono ?_
    rintro e W ⟨rfl, n, os, rfl⟩
    exact ⟨rfl, by rw [sortN_length]; exact ownsRow_sortedN (sortN_length xs) hg hb hn1 hcap hsz, by simpa [Value.ownBlock] using grownBy_sortedN _⟩

set_option maxHeartbeats 1000000 in
theorem sorted_any (N gf : Nat) (hSt : SortsC N) (lb : Array Value) (rd : Nat → Prop) (S Sp : List Nat → Prop) (w : World) (eg : ∀ args w, (callFunc gf args).run Try.prog w = .ok (.enter gf args) w)
    (hseq : IterS Try.prog gf lb (fun x : Nat => #[.int .u64 (x : Int)]) (fun _ => False) rd S Sp w) (hrd : ∀ b, rd b → b < w.heap.size) (hSp : ∀ pre, Sp pre → pre.length ≤ 1125899906842) (hSN : ∀ xs, S xs → xs.length ≤ N ∧ xs.length < 4611686018427387904) :
    Calls Try.prog 82 #[.func (.func gf) #[] lb] w (RowOf (fun ys => ∃ xs, S xs ∧ ys = sortN xs) w) := by
  have cA := collect_any gf lb rd S Sp w eg hseq hrd hSp
  clear hseq hrd hSp eg
  have HSN := Lib.hid hSN
  have HSt := Lib.hid hSt
  clear hSN hSt
  go_enter Try.func82, Try.ntmps82
  go_wp2_with (first
    | (refine cA.mono ?_; rintro e W1 ⟨xs, v, hS, rfl, hrow, hB⟩)
    | (refine (sort_row HSt.out hrow (HSN.out _ hS).1 (HSN.out _ hS).2).mono ?_; rintro e W2 ⟨rfl, hrow2, hgr⟩))
  go_ret
  exact ⟨sortN xs, v, ⟨xs, hS, rfl⟩, rfl, hrow2, hB.grown hgr hB.size (fun k hk => (hrow.lt k hk).1)⟩

/-- The keys of f, in order. -/
def KeysUp (f : Nat → Nat) (ks : List Nat) : Prop := ks.Pairwise (· < ·) ∧ ∀ x, x ∈ ks ↔ (x < 2 ^ 64 ∧ 0 < f x)
theorem keysUp_of {f : Nat → Nat} {xs : List Nat} (h : AllKeys f xs) : KeysUp f (sortN xs) := by
  refine ⟨?_, fun x => ((sortN_perm xs).mem_iff).trans (h.2 x)⟩
  have h1 := sortN_sorted xs
  have h2 : (sortN xs).Nodup := (sortN_perm xs).nodup_iff.2 h.1
  exact h1.imp₂ (fun a b hab hne => Nat.lt_of_le_of_ne hab hne) h2

set_option maxHeartbeats 1000000 in
theorem rising_any (N : Nat) (hSt : SortsC N) (f : Nat → Nat) (b n : Nat) (w : World) (hM : MapN w b n f) (hn : ∀ xs, AllKeys f xs → xs.length ≤ n → xs.length ≤ N) (hl : n ≤ 1125899906842) :
    Calls Try.prog 48 #[.map (some b)] w (RowOf (KeysUp f) w) := by
  have hbl : b < w.heap.size := hM.lt
  have cS := sorted_any N _ hSt #[.pointer (some ⟨w.heap.size, 0, none⟩)] _ (fun xs => AllKeys f xs ∧ xs.length ≤ n) (SomeKeys f n) (w.alloc (.cells #[.map (some b)] 97))
    (fun args w => enters_of Try.func102 (by kernel_rfl) rfl args w)
    (keys_iter f b n w.heap.size _ hM.alloc (by simp) (by go_keep)) (by rintro j (rfl | rfl) <;> simp <;> omega) (fun pre h => Nat.le_trans h.2.2 hl)
    (fun xs h => ⟨hn xs h.1 h.2, by omega⟩)
  have cK := fun w => keys_any b w
  clear hM
  go_enter Try.func48, Try.ntmps48
  go_wp2_with (first
    | (refine (cK _).mono ?_; rintro e W1 ⟨rfl, rfl⟩)
    | (refine cS.mono ?_; rintro e W1 ⟨ys, v, ⟨xs, hx, rfl⟩, rfl, hrow, hB⟩))
  go_ret
  exact ⟨sortN xs, v, keysUp_of hx.1, rfl, own_weaken hrow (by simp), ((Below.refl _ _).alloc (Nat.le_refl _) _).trans (hB.mono (by simp))⟩
end Go.Proofs.Ytcfpgcejahfdfab

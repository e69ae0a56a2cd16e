/- maps.Keys of a map of counts: its iterator; slices.AppendSeq, slices.Collect over whatever iterator. -/
import Derived.Test.YtcfpgcejahfdfabMadeP
import Derived.Maps.RangeWalk
import Derived.Sort.MapsRangeIn
namespace Go.Proofs.Ytcfpgcejahfdfab
open Go.RowKit Go.Maps Go.Shelf
attribute [local go_sem] Oper.semAt_some
set_option linter.unusedVariables false
set_option linter.unusedSimpArgs false

/-- All the keys, each once. -/
def AllKeys (f : Nat → Nat) (xs : List Nat) : Prop := xs.Nodup ∧ ∀ x, x ∈ xs ↔ (x < 2 ^ 64 ∧ 0 < f x)
/-- Some of them. -/
def SomeKeys (f : Nat → Nat) (n : Nat) (xs : List Nat) : Prop := xs.Nodup ∧ (∀ x ∈ xs, x < 2 ^ 64 ∧ 0 < f x) ∧ xs.length ≤ n

theorem ranges_of_blocks {W W' : World} {k : TypeId} {R : Value → Option (DataW Unit × List MemPlace)} {b r n cnt : Nat} {D : DataW Unit} {left : Lit → Bool} (h : W.ranges Try.prog k R b r n D left cnt) (h1 : W'.heap[b]? = W.heap[b]?) (h2 : W'.heap[r]? = W.heap[r]?) : W'.ranges Try.prog k R b r n D left cnt := by
  obtain ⟨es, clock, since, seen, c0, hb, F, hs, hD, hr, rest⟩ := h
  exact ⟨es, clock, since, seen, c0, h1.trans hb, F, hs, hD, h2.trans hr, rest⟩
theorem ranges_iter {W : World} {k : TypeId} {R : Value → Option (DataW Unit × List MemPlace)} {b r n cnt : Nat} {D : DataW Unit} {left : Lit → Bool} (h : W.ranges Try.prog k R b r n D left cnt) : ∃ o : Obj, W.heap[r]? = some o ∧ isData o = false := by
  obtain ⟨es, clock, since, seen, c0, hb, F, hs, hD, hr, rest⟩ := h
  exact ⟨_, hr, rfl⟩

theorem owns_size {W : World} {k : TypeId} {R : Value → Option (DataW Unit × List MemPlace)} {b n : Nat} {D : DataW Unit} (h : W.ownsMap Try.prog k R b n D) : Maps.size D ≤ n := by
  obtain ⟨es, clock, _, _, hs, rfl⟩ := h
  rw [size_eq, (WideShapes.sorted_perm _).length_eq]
  simpa using hs

set_option maxRecDepth 100000 in
set_option maxHeartbeats 2000000 in
theorem keys_iter (f : Nat → Nat) (b n bs : Nat) (w0 : World) (hM : MapN w0 b n f) (hbs : bs < w0.heap.size) (hcs : w0.cell? ⟨bs, 0, none⟩ = some (.map (some b))) :
    IterS Try.prog 102 #[.pointer (some ⟨bs, 0, none⟩)] (fun x : Nat => #[.int .u64 (x : Int)]) (fun _ => False) (fun j => j = bs ∨ j = b) (fun xs => AllKeys f xs ∧ xs.length ≤ n) (SomeKeys f n) w0 := by
  intro l J Jx W hW hJ hJx hY h0
  have hcs' := (hW.cell (p := ⟨bs, 0, none⟩) hbs).trans hcs
  have hbl : bs < W.heap.size := Nat.lt_of_lt_of_le hbs hW.size
  obtain ⟨D, hown, -, hhas, -⟩ := hM.below hW hM.lt
  have hbW : b < W.heap.size := hown.lt
  have hsz := owns_size hown
  clear hcs hM
  refine callsIn_of_wp Try.func102 rfl trivial ?_ rfl
  simp only [Try.ntmps102, List.size_toArray, List.length_cons, List.length_nil, Nat.reduceAdd, Nat.reduceSub, Array.replicate_succ, Array.replicate_zero, List.push_toArray, List.append_toArray, List.nil_append, List.cons_append]
  gi_wp2_with (first
    | (gi_at_range; refine wpListIn_range_own _ rfl _ 97 rfl 22 3 keyedU Try.underlying97 _ b n _ rfl hown ?_; intro w1 hrg0 hg0 hs0)
    | gi_in)
  try go_frame
  gi_loopw [3] (fun _ wr => ∃ (left : Lit → Bool) (cnt : Nat) (ss : List Nat), wr.ranges Try.prog 22 (plainElem Try.prog 3) b W.heap.size n D left cnt ∧ ss.length + cnt ≤ Maps.size D ∧ ss.Nodup ∧ (∀ x ∈ ss, x < 2 ^ 64) ∧ (∀ x, x < 2 ^ 64 → (x ∈ ss ↔ (Maps.has D (.int .u64 (x : Nat)) = true ∧ left (.int .u64 (x : Nat)) = false))) ∧ W.heap.size < wr.heap.size ∧ wr.cell? ⟨bs, 0, none⟩ = some (.map (some b)) ∧ J ss wr)
    (fun _ wr => wr.rangeLeft b W.heap.size)
  case atStart =>
    refine ⟨_, _, [], hrg0, by simp, by simp, by simp, fun x _ => ⟨fun h => by simp at h, fun ⟨h1, h2⟩ => by rw [h1] at h2; cases h2⟩, by omega, ?_, hJ [] W w1 h0 (Keeps.grown _ _ hg0 (fun k hk => by cases hk))⟩
    exact (World.cell?_of_block (hg0.block bs hbl (by simp))).trans hcs'
  case round =>
    obtain ⟨left, cnt, ss, hrg, hcn, hnd, hlt, hin, hsz2, hcb, hj⟩ := hrel
    gi_wp2_with (first
      | (gi_at_next; refine wpListIn_next_ranges _ rfl _ rfl 22 keyedU (plainElem Try.prog 3) (fun x : Int => Value.int .u64 x) id (fun key kl hk => by obtain ⟨x, hx, _⟩ := Maps.keyOf_int_inv Try.underlying22 hk; exact ⟨x, hx⟩) (fun v _ _ => ⟨v, rfl⟩) b W.heap.size n _ _ _ rfl hrg ?_ ?_)
      | gi_in)
    · intro hc0 hl0
      gi_wp2
      go_end0
      refine ⟨⟨_, rfl⟩, .inl ⟨ss, ⟨⟨hnd, fun x => ⟨fun hx => ?_, fun ⟨h1, h2⟩ => ?_⟩⟩, by omega⟩, hj⟩⟩
      · have h1 := hlt x hx
        have h2 := ((hin x h1).1 hx).1
        rw [hhas x h1] at h2
        exact ⟨h1, by simpa using h2⟩
      · exact (hin x h1).2 ⟨by rw [hhas x h1]; simpa using h2, hl0 _⟩
    · intro x c kl yd yp w2 cnt2 hkey hlk hv hat hrg2 hlt2 hg2 hs2 hen
      obtain ⟨x', ex, rfl, hwf⟩ := Maps.keyOf_int_inv Try.underlying22 hkey
      obtain rfl : x = x' := by cases ex; rfl
      have b01 : 0 ≤ x ∧ x ≤ 18446744073709551615 := by simp [Lit.wf, IntKind.min, IntKind.max, IntKind.signed, IntKind.bits] at hwf; omega
      obtain ⟨y, hy⟩ : ∃ y : Nat, x = (y : Int) := ⟨x.toNat, by omega⟩
      subst hy
      have hy64 : y < 2 ^ 64 := by omega
      have hhy : Maps.has D (.int .u64 (y : Nat)) = true := has_true_of_atKey hat
      have hny : y ∉ ss := fun h => by have := ((hin y hy64).1 h).2; rw [hlk] at this; cases this
      obtain ⟨oi, hoi, hdi⟩ := ranges_iter hrg
      have hJ2 : J ss w2 := hJ ss wr w2 hj (Keeps.grown _ _ hg2 fun k hk => by cases hk; exact .inr (.inr ⟨Nat.le_refl _, fun o ho => by rw [hoi] at ho; cases ho; exact hdi⟩))
      have hcb2 : w2.cell? ⟨bs, 0, none⟩ = some (.map (some b)) := (World.cell?_of_block (hg2.block bs (by omega) (by simp; omega))).trans hcb
      have hfy : 0 < f y := by rw [hhas y hy64] at hhy; simpa using hhy
      have hsome : SomeKeys f n (ss ++ [y]) := by
        refine ⟨?_, fun z hz => ?_, by simp; omega⟩
        · rw [List.nodup_append]
          exact ⟨hnd, by simp, fun a ha c hc e => by simp at hc; subst hc; subst e; exact hny ha⟩
        · rcases List.mem_append.1 hz with h | h
          · have h1 := hlt z h
            have h2 := ((hin z h1).1 h).1
            rw [hhas z h1] at h2
            exact ⟨h1, by simpa using h2⟩
          · simp at h; subst h; exact ⟨hy64, hfy⟩
      obtain ⟨fn, tmps, assign, body, hyy, hRn⟩ := hY ss y w2 hJ2 hsome
      have hcnd : ∀ z, z < 2 ^ 64 → (z ∈ ss ++ [y] ↔ (Maps.has D (.int .u64 (z : Nat)) = true ∧ (left (.int .u64 (z : Nat)) && !(Lit.int .u64 (z : Nat)).sameKey (.int .u64 (y : Nat))) = false)) := fun z hz => by
        by_cases e : z = y
        · subst e
          have : (Lit.int .u64 (z : Nat)).sameKey (.int .u64 (z : Nat)) = true := by simp [Lit.sameKey]
          simp [hhy, this]
        · have : (Lit.int .u64 (z : Nat)).sameKey (.int .u64 (y : Nat)) = false := sameKey_ne (fun h => e (by simp at h; omega))
          simp [hin z hz, e, this]
      have HSOME := Lib.hid hsome
      have HCND := Lib.hid hcnd
      have HIN := Lib.hid hin
      have HLT := Lib.hid hlt
      have HY64 := Lib.hid hy64
      have HHAS := Lib.hid hhas
      have HAT := Lib.hid hat
      clear hsome hcnd hin hlt hy64 hhas hat hY hs2 hhy hlk hv
      gi_wp2
      refine hRn.mono ?_
      rintro e W3 (⟨rfl, hJ3, hk3⟩ | ⟨rfl, hJx3⟩)
      · gi_wp2
        have hrg3 := ranges_of_blocks hrg2 (hk3.read b (.inr rfl) hrg2.owns.lt) (by
          obtain ⟨o2, ho2, hd2⟩ := ranges_iter hrg2
          rw [ho2]; exact hk3.book _ _ (Nat.le_refl _) ho2 hd2)
        go_roundw
        case rel =>
          refine ⟨_, cnt2, ss ++ [y], hrg3, by simp; omega, HSOME.out.1, fun z hz => (HSOME.out.2.1 z hz).1, HCND.out, by have := hk3.size; have := hg2.size; omega, ?_, hJ3⟩
          exact (World.cell?_of_block (hk3.read bs (.inl rfl) (by have := hg2.size; omega))).trans hcb2
        case measure => rw [hrg3.left_eq, hrg.left_eq]; exact hlt2
      · gi_wp2
        refine bodyPost_ret (results_none rfl _ _ _) rfl ?_
        exact ⟨⟨_, rfl⟩, .inr ⟨ss ++ [y], HSOME.out, hJx3⟩⟩
theorem keys_enters (args : Array Value) (w : World) : (callFunc 102 args).run Try.prog w = .ok (.enter 102 args) w := enters_of Try.func102 (by kernel_rfl) rfl args w
end Go.Proofs.Ytcfpgcejahfdfab

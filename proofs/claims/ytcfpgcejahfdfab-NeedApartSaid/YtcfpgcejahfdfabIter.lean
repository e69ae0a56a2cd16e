/- slices.Values and slices.Backward at []uint64: their iterators; need.up. -/
import Derived.Test.YtcfpgcejahfdfabWay
import Derived.Test.YtcfpgcejahfdfabBlk
namespace Go.Proofs.Ytcfpgcejahfdfab
open Go.RowKit Go.Shelf
attribute [local go_sem] Oper.semAt_some
set_option linter.unusedVariables false
set_option linter.unusedSimpArgs false

/-- A slice of numbers of 64 bits lies in memory. -/
def SliceAt (W : World) (v : Value) (xs : List Nat) : Prop :=
  (v = .slice none 0 0 ∧ xs = []) ∨ ∃ (g off cap : Nat), v = .slice (some ⟨g, off, none⟩) xs.length cap ∧ g < W.heap.size ∧ xs.length ≤ 9223372036854775807 ∧ ∀ j x, xs[j]? = some x → W.cell? ⟨g, off + j, none⟩ = some (uv x)

theorem SliceAt.below {W W' : World} {v : Value} {xs : List Nat} {B : Nat} (h : SliceAt W v xs) (hb : Below B W W') (hB : ∀ g, v.ownBlock = some g → g < B) : SliceAt W' v xs := by
  rcases h with h | ⟨g, off, cap, rfl, hg, hl, hc⟩
  · exact .inl h
  · exact .inr ⟨g, off, cap, rfl, Nat.lt_of_lt_of_le hg hb.size, hl, fun j x hx => (hb.cell (p := ⟨g, off + j, none⟩) (hB g rfl)).trans (hc j x hx)⟩

theorem SliceAt.own_lt {W : World} {v : Value} {xs : List Nat} (h : SliceAt W v xs) : ∀ g, v.ownBlock = some g → g < W.heap.size := by
  rcases h with ⟨rfl, _⟩ | ⟨g, off, cap, rfl, hg, _⟩
  · intro g h; cases h
  · intro g' h; cases h; exact hg

theorem SliceAt.of_row {W : World} {base : Nat} {v : Value} {xs : List Nat} (h : W.ownsRow base 22 1 v xs.length (xs.map uv)) (hl : xs.length ≤ 9223372036854775807) : SliceAt W v xs := by
  have h0 := h
  obtain ⟨h1, h2⟩ := h
  rcases h2 with ⟨rfl, hz⟩ | ⟨g, cap, cur, rfl, hg, hh, r⟩
  · exact .inl ⟨rfl, List.eq_nil_of_length_eq_zero hz⟩
  · refine .inr ⟨g, 0, cap, rfl, (Array.getElem?_eq_some_iff.1 hh).1, hl, fun j x hx => ?_⟩
    have := h0.cellAt j (by have := (List.getElem?_eq_some_iff.1 hx).1; omega)
    rw [List.getElem?_map, hx] at this
    simpa using this

set_option maxHeartbeats 400000 in
theorem values_any (a : Option Addr) (len cap : Nat) (w : World) :
    Calls Try.prog 99 #[.slice a len cap] w fun e w' =>
      e = .returned (.func (.func 108) #[] #[.pointer (some ⟨w.heap.size, 0, none⟩)]) ∧ w' = w.alloc (.cells #[.slice a len cap] 23) := by
  have hmf : ∀ (fn : Fn) (first cap : Array Value) (w : World), (Instr.makeFunc fn first cap).run Try.prog w = .ok (.func fn first cap) w := fun _ _ _ _ => rfl
  go_enter Try.func99, Try.ntmps99
  go_wp2
  go_ret
  exact ⟨rfl, rfl⟩

set_option maxHeartbeats 1000000 in
theorem values_iter (v : Value) (xs : List Nat) (bs : Nat) (w0 : World) (hbs : bs < w0.heap.size) (hcs : w0.cell? ⟨bs, 0, none⟩ = some v) (hv : SliceAt w0 v xs) :
    Iter Try.prog 108 #[.pointer (some ⟨bs, 0, none⟩)] (fun x : Nat => #[.int .u64 (x : Int)]) (fun _ => False) (fun b => b = bs ∨ v.ownBlock = some b) xs w0 := by
  intro l J Jx W hW hJ hJx hY h0
  have hcs' := (hW.cell (p := ⟨bs, 0, none⟩) hbs).trans hcs
  have hv' := hv.below hW hv.own_lt
  clear hcs
  refine callsIn_of_wp Try.func108 rfl trivial ?_ rfl
  simp only [Try.ntmps108, List.size_toArray, List.length_cons, List.length_nil, Nat.reduceAdd, Nat.reduceSub, Array.replicate_succ, Array.replicate_zero, List.push_toArray, List.append_toArray, List.nil_append, List.cons_append]
  rcases hv' with ⟨rfl, rfl⟩ | ⟨g, off, cap, rfl, hg, hl, hc⟩
  · gi_wp2
    gi_loopw [7] (fun i wr => i = .int .i64 0 ∧ J [] wr) (fun _ _ => 0)
    case atStart => exact ⟨rfl, h0⟩
    case round =>
      obtain ⟨rfl, hj⟩ := hrel
      gi_wp2
      go_end0
      exact ⟨⟨_, rfl⟩, .inl hj⟩
  · obtain ⟨len, hlen⟩ : ∃ n, xs.length = n := ⟨_, rfl⟩
    rw [hlen] at hl hcs'
    have HL := Lib.hid hlen
    clear hlen
    gi_wp2
    gi_loopw [7] (fun i wr => ∃ k : Nat, k ≤ len ∧ i = .int .i64 k ∧ (∀ j x, xs[j]? = some x → wr.cell? ⟨g, off + j, none⟩ = some (uv x)) ∧ g < wr.heap.size ∧ J (xs.take k) wr) (fun i _ => len - (intOf i).toNat)
    case atStart => exact ⟨0, Nat.zero_le _, rfl, hc, hg, h0⟩
    case round =>
      obtain ⟨k, hk, rfl, hcc, hgl, hj⟩ := hrel
      by_cases hlt : k < len
      case neg =>
        have e : xs.take k = xs := List.take_of_length_le (by rw [HL.out]; omega)
        rw [e] at hj
        clear e
        gi_wp2
        go_end0
        exact ⟨⟨_, rfl⟩, .inl hj⟩
      have hkx : k < xs.length := by rw [HL.out]; exact hlt
      obtain ⟨x, hx⟩ : ∃ x, xs[k]? = some x := ⟨_, List.getElem?_eq_getElem hkx⟩
      have htk : xs.take (k + 1) = xs.take k ++ [x] := by rw [List.take_add_one, hx]; rfl
      have hcell := hcc k x hx
      unfold uv at hcell
      obtain ⟨fn, tmps, assign, body, hy, hRn⟩ := hY (xs.take k) x wr hj (by rw [← htk]; exact List.take_prefix _ _)
      have HT := Lib.hid htk
      have HX := Lib.hid hx
      have HC := Lib.hid hcc
      clear htk hx hcc hY
      gi_wp2
      refine hRn.mono ?_
      rintro e W3 (⟨rfl, hJ3, hk3⟩ | ⟨rfl, hJx3⟩)
      · gi_wp2
        go_roundw
        case rel =>
          refine ⟨k + 1, by omega, by go_num, fun j y hy => ?_, Nat.lt_of_lt_of_le hgl hk3.size, by rw [HT.out]; exact hJ3⟩
          exact (World.cell?_of_block (hk3.read g (.inr rfl) hgl)).trans (HC.out j y hy)
        case measure => simp [intOf]; omega
      · gi_wp2
        refine bodyPost_ret (results_none rfl _ _ _) rfl ?_
        exact ⟨⟨_, rfl⟩, .inr ⟨xs.take k ++ [x], by rw [← HT.out]; exact List.take_prefix _ _, hJx3⟩⟩
theorem values_enters (args : Array Value) (w : World) : (callFunc 108 args).run Try.prog w = .ok (.enter 108 args) w := enters_of Try.func108 (by kernel_rfl) rfl args w

/-- need.up: what a way's iterator is, and where its slice lies. -/
def UpAt (n p : Nat) (w : World) (e : Ending) (w' : World) : Prop :=
  ∃ (bs : Nat) (v : Value), e = .returned (.func (.func 108) #[] #[.pointer (some ⟨bs, 0, none⟩)]) ∧ w.heap.size ≤ bs ∧ bs < w'.heap.size ∧ w'.cell? ⟨bs, 0, none⟩ = some v ∧ SliceAt w' v (wayN n p) ∧ (∀ g, v.ownBlock = some g → w.heap.size ≤ g) ∧ Below w.heap.size w w'

set_option maxHeartbeats 400000 in
theorem needUp_any (n p : Nat) (w : World) (hn : n < 2 ^ 64) (hp : p < 2 ^ 64) :
    Calls Try.prog 81 #[.int .u64 (n : Int), .int .u64 (p : Int)] w (UpAt n p w) := by
  have hl := wayN_len n p
  have cW := fun w => Way_any n p w hn hp
  have cV := values_any
  go_enter Try.func81, Try.ntmps81
  go_wp2_with (with_reducible refine (cW _).mono ?_; rintro e W1 ⟨v, rfl, hrow, hB⟩)
  have hsl := SliceAt.of_row hrow (by omega)
  have hlt : ∀ g, v.ownBlock = some g → w.heap.size ≤ g := fun g hg => (hrow.lt g hg).1
  obtain ⟨a, len, cap, rfl⟩ : ∃ a len cap, v = .slice a len cap := by
    rcases hsl with ⟨rfl, _⟩ | ⟨g, off, cap, rfl, _⟩ <;> exact ⟨_, _, _, rfl⟩
  refine (cV _ _ _ _).mono ?_
  rintro e W2 ⟨rfl, rfl⟩
  go_wp2_with fail
  go_ret
  refine ⟨W1.heap.size, .slice a len cap, rfl, hB.size, by simp, by rw [World.cell?_alloc_at _ _ _ _ rfl]; rfl, hsl.below (B := W1.heap.size) ((Below.refl _ _).alloc (Nat.le_refl _) _) hsl.own_lt, hlt, hB.alloc hB.size _⟩

end Go.Proofs.Ytcfpgcejahfdfab

/- slices.Sort at uint64, of twelve numbers or fewer; the sorted list. -/
import Derived.Test.YtcfpgcejahfdfabSortA
import Derived.Test.YtcfpgcejahfdfabShelf
import Derived.Sort.AssemblyPlain
namespace Go.Proofs.Ytcfpgcejahfdfab
open Go.RowKit Go.Sort
set_option linter.unusedVariables false
set_option linter.unusedSimpArgs false

theorem swo_ltN : SWO ltN where
  irrefl x := by simp [ltN]
  trans x y z h1 h2 := by simp [ltN] at h1 h2 ⊢; omega
  ntrans x y z h1 h2 := by simp [ltN] at h1 h2 ⊢; omega

/-- the sorted list. -/
def sortN (xs : List Nat) : List Nat := xs.mergeSort fun x y => decide (x ≤ y)
theorem sortN_length (xs : List Nat) : (sortN xs).length = xs.length := by simp [sortN]
theorem sortN_perm (xs : List Nat) : (sortN xs).Perm xs := List.mergeSort_perm _ _
theorem sortN_sorted (xs : List Nat) : (sortN xs).Pairwise (fun x y => x ≤ y) := by
  have := List.pairwise_mergeSort (le := fun (x y : Nat) => decide (x ≤ y)) (by intro a b c; simp; omega) (by intro a b; simp; omega) xs
  exact this.imp (by intro a b h; simpa using h)

theorem ltN_le (xs : List Nat) : xs.mergeSort (fun x y => !ltN y x) = sortN xs := by
  unfold sortN
  congr 1
  funext x y
  by_cases h : x ≤ y
  · simp [ltN, h, show ¬ y < x from by omega]
  · simp [ltN, h, show y < x from by omega]

theorem sorted_is {d' : Array Nat} {xs : List Nat} (hp : PermIn 0 xs.toArray.size xs.toArray d') (hs : SortedIn ltN 0 d'.size d') : d' = (sortN xs).toArray := by
  have h := sorted_unique_holds (lt := ltN) swo_ltN (by intro x y h1 h2; simp [ltN] at h1 h2; omega) xs.toArray d' hp (by rw [← hp.1]; exact hs)
  rw [show xs.toArray.toList = xs from rfl, ltN_le] at h
  rw [← h]

/-- what slices.Sort does with a row of numbers. -/
def SortsC (N : Nat) : Prop := ∀ (blk off cap : Nat) (xs : List Nat) (w : World), Holds uv w blk off xs.toArray → blk < w.heap.size → xs.length ≤ N → xs.length < 4611686018427387904 →
  Calls Try.prog 101 #[.slice (some ⟨blk, off, none⟩) xs.length cap] w fun e w' => e = .returned (.tuple #[]) ∧ ∃ n os, w' = grow (putRow uv (Sort.ahead w n) blk off (sortN xs).toArray) os

set_option maxRecDepth 100000 in
set_option maxHeartbeats 1000000 in
theorem pdq_small_any (blk off cap b lim : Nat) (xs : List Nat) (w : World) (hH : Holds uv w blk off xs.toArray) (hb : b = xs.length) (h12 : xs.length ≤ 12) :
    Calls Try.prog 110 #[.slice (some ⟨blk, off, none⟩) xs.length cap, .int .i64 0, .int .i64 b, .int .i64 lim] w fun e w' =>
      e = .returned (.tuple #[]) ∧ ∃ n, w' = putRow uv (Sort.ahead w n) blk off (sortN xs).toArray := by
  have cI : Calls Try.prog 114 #[.slice (some ⟨blk, off, none⟩) xs.length cap, .int .i64 0, .int .i64 b] w fun e w' =>
      e = .returned (.tuple #[]) ∧ ∃ n, w' = putRow uv (Sort.ahead w n) blk off (sortN xs).toArray := by
    have h := insertion_any blk off cap 0 b xs.toArray w hH (Nat.zero_le _) (by simp; omega) (by simp; omega)
    have hs := insertionSort_holds (lt := ltN) swo_ltN xs.toArray 0 b (Nat.zero_le _) (by simp; omega)
    rw [show b = xs.toArray.size from by simp; exact hb] at h hs
    rw [sorted_is hs.1 (by rw [hs.1.1]; exact hs.2)] at h
    rw [hb]
    exact h
  have CI := Lib.hid cI
  clear cI
  have HH := Lib.hid hH
  clear hH
  go_enter Try.func110, Try.ntmps110
  go_wp2
  go_loopw [1, 2] (fun s1 s2 wr => s1 = .int .i64 0 ∧ s2 = .int .i64 b ∧ wr = w) (fun _ _ _ => 0)
  case atStart => exact ⟨rfl, rfl, rfl⟩
  case round =>
    obtain ⟨rfl, rfl, rfl⟩ := hrel
    have h12z : (b : Int) - 0 ≤ 12 := by omega
    have h12y : (b : Int) ≤ 12 := by omega
    clear hb h12
    go_wp2_with (go_at_call 114; refine CI.out.mono ?_; rintro e w1 ⟨rfl, n, hw1⟩)
    (try simp only [Exit.inBlock, Exit.then]); refine bodyPost_ret (results_none rfl _ _ _) rfl ?_
    exact ⟨rfl, n, rfl⟩

set_option maxHeartbeats 4000000 in
theorem sort_small : SortsC 12 := fun blk off cap xs w hH hblk h12 hsz => by
  have HH := Lib.hid hH
  clear hH
  have cL : ∀ w : World, Calls Try.prog 111 #[.int .u64 (xs.length : Nat)] w fun e w' => e = .returned (.int .i64 (Lib.bitLen xs.length : Nat)) ∧ w' = w := fun w =>
    Try.bits_Len (xs.length : Nat) w (by omega) (by omega)
  go_enter Try.func101, Try.ntmps101
  go_wp2_with (first
    | (go_at_call 111; refine (cL _).mono ?_; rintro e w' ⟨rfl, rfl⟩)
    | (go_at_call 110; refine (pdq_small_any blk off cap xs.length (Lib.bitLen xs.length) xs _ (by exact HH.out) rfl h12).mono ?_; rintro e w' ⟨rfl, n, rfl⟩))
  go_end0
  exact ⟨rfl, n, #[], by simp⟩
end Go.Proofs.Ytcfpgcejahfdfab

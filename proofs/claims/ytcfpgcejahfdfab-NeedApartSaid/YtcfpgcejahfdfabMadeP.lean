/- need.made: what lies in memory; marks of ranges that are over. -/
import Derived.Test.YtcfpgcejahfdfabIter
import Derived.Test.YtcfpgcejahfdfabMapN
import Derived.Test.YtcfpgcejahfdfabNeedM
namespace Go.Proofs.Ytcfpgcejahfdfab
open Go.RowKit Go.Maps
set_option linter.unusedVariables false
set_option linter.unusedSimpArgs false

theorem MapN.run_look {w : World} {b n : Nat} {f : Nat → Nat} (hM : MapN w b n f) (k : Nat) (hk : k < 2 ^ 64) :
    (Instr.lookup 98 (.map (some b)) (.int .u64 (k : Nat)) false).run Try.prog w = .ok (.int .i64 (f k : Nat)) w := by
  obtain ⟨D, hown, h1, h2, h3⟩ := hM
  obtain ⟨c, hrun, hat, _⟩ := hown.lookup_int keyedU setT Try.underlying3 (zeroInt _) (keyU k hk)
  rw [h1 k hk] at hat
  cases hat
  exact hrun

theorem MapN.le {w : World} {b n : Nat} {f : Nat → Nat} (hM : MapN w b n f) (k : Nat) (hk : k < 2 ^ 64) : f k ≤ n := by
  obtain ⟨D, _, _, _, h⟩ := hM
  exact h k hk

theorem Blk.grown {W W' : World} {b : Nat} {cs : Array Value} {T : TypeId} {row : Option Nat} (h : Blk W b cs T) (hg : W.grownBy W' row) (hr : some b ≠ row) : Blk W' b cs T := (hg.block b h.lt hr).trans h
theorem Blk.one {W : World} {b : Nat} {v : Value} {T : TypeId} (h : Blk W b #[v] T) : W.cell? ⟨b, 0, none⟩ = some v ∧ W.frozen? ⟨b, 0, none⟩ = false := ⟨h.cell 0, h.frozen 0⟩
theorem Blk.fourC {W : World} {b : Nat} {x0 x1 x2 x3 : Value} {T : TypeId} (h : Blk W b #[x0, x1, x2, x3] T) : W.cell? ⟨b, 0, none⟩ = some x0 ∧ W.cell? ⟨b, 1, none⟩ = some x1 ∧ W.cell? ⟨b, 2, none⟩ = some x2 ∧ W.cell? ⟨b, 3, none⟩ = some x3 := ⟨h.cell 0, h.cell 1, h.cell 2, h.cell 3⟩

/-- A range that is over leaves its mark. -/
abbrev mk (D : Nat) : Deferred := { target := .collected D, args := #[] }

/-- What lies in memory while made plans: its results' variables, the plan, the pointer to it, the marks. -/
structure MK (w : World) (n : Nat) (ds : List Nat) (e : Int) (W : World) : Prop where
  c4 : Blk W w.heap.size #[.pointer none] 94
  c5 : Blk W (w.heap.size + 1) #[.int .i64 e] 24
  pl : Blk W (w.heap.size + 4) #[.int .u64 (n : Nat), .int .i64 (rowsN n : Nat), .map (some (w.heap.size + 2)), .map (some (w.heap.size + 3))] 100
  px : Blk W (w.heap.size + 5) #[.pointer (some ⟨w.heap.size + 4, 0, none⟩)] 94
  dfr : ∀ D ∈ ds, W.heap[D]? = some (.deferred (some []))
  low : ∀ D ∈ ds, w.heap.size + 6 ≤ D
  below : Below w.heap.size w W
  size : w.heap.size + 6 ≤ W.heap.size

theorem MK.keep {w W W' : World} {n : Nat} {ds : List Nat} {e : Int} (h : MK w n ds e W) (hb : Below w.heap.size w W') (hs : W.heap.size ≤ W'.heap.size)
    (hsame : ∀ b o, W.heap[b]? = some o → (b = w.heap.size ∨ b = w.heap.size + 1 ∨ b = w.heap.size + 4 ∨ b = w.heap.size + 5 ∨ b ∈ ds) → W'.heap[b]? = some o) : MK w n ds e W' :=
  ⟨hsame _ _ h.c4 (by simp), hsame _ _ h.c5 (by simp), hsame _ _ h.pl (by simp), hsame _ _ h.px (by simp), fun D hD => hsame _ _ (h.dfr D hD) (by simp [hD]), h.low, hb, Nat.le_trans h.size hs⟩

theorem MK.step {w W W' : World} {n : Nat} {ds : List Nat} {e : Int} (h : MK w n ds e W) (hb : Below W.heap.size W W') : MK w n ds e W' :=
  h.keep (h.below.trans (hb.mono (by have := h.size; omega))) hb.size fun b o hbo _ => (hb.block b (Array.getElem?_eq_some_iff.1 hbo).1).trans hbo
theorem MK.alloc {w W : World} {n : Nat} {ds : List Nat} {e : Int} (h : MK w n ds e W) (o : Obj) : MK w n ds e (W.alloc o) := h.step ((Below.refl _ _).alloc (Nat.le_refl _) o)
theorem MK.drew {w W : World} {n : Nat} {ds : List Nat} {e : Int} (h : MK w n ds e W) : MK w n ds e W.drew := h.step ((Below.refl _ _).drew)
/-- A store into one of the two maps. -/
theorem MK.grown {w W W' : World} {n : Nat} {ds : List Nat} {e : Int} {k : Nat} (h : MK w n ds e W) (hg : W.grownBy W' (some k)) (hk : k = w.heap.size + 2 ∨ k = w.heap.size + 3) : MK w n ds e W' :=
  h.keep (h.below.grown hg (by have := h.size; omega) (fun j hj => by cases hj; omega)) hg.size fun b o hbo hb => (hg.block b (Array.getElem?_eq_some_iff.1 hbo).1 (fun e => by
    have e : b = k := by simpa using e
    rcases hb with r | r | r | r | r
    · omega
    · omega
    · omega
    · omega
    · have := h.low b r; omega)).trans hbo
/-- A store into another block of the call's own. -/
theorem MK.other {w W : World} {n : Nat} {ds : List Nat} {e : Int} (h : MK w n ds e W) (a : Addr) (v : Value) (ha : w.heap.size + 6 ≤ a.block) (hd : a.block ∉ ds) : MK w n ds e (W.setCell a v) :=
  h.keep (h.below.setCell (by omega) v) (by simp [World.setCell]) fun b o hbo hb => (Below.heap_setCell W a v b (fun e => by
    rcases hb with r | r | r | r | r
    · omega
    · omega
    · omega
    · omega
    · exact hd (e ▸ r))).trans hbo
/-- The refusal. -/
theorem MK.refuse {w W : World} {n : Nat} {ds : List Nat} (h : MK w n ds 0 W) : MK w n ds 2 ((W.setCell ⟨w.heap.size, 0, none⟩ (.pointer none)).setCell ⟨w.heap.size + 1, 0, none⟩ (.int .i64 2)) := by
  refine ⟨?_, ?_, (h.pl.other (by simp) _).other (by simp) _, (h.px.other (by simp) _).other (by simp) _, fun D hD => ?_, h.low, (h.below.setCell (by simp) _).setCell (by simp) _, by simpa using h.size⟩
  · exact (h.c4.set 0 _).other (by simp) _
  · exact (h.c5.other (by simp) _).set 0 _
  · have := h.low D hD
    exact ((Below.heap_setCell _ _ _ D (by simp; omega)).trans (Below.heap_setCell _ _ _ D (by simp; omega))).trans (h.dfr D hD)
/-- What an iterator may do. -/
theorem MK.keeps {w W W' : World} {n : Nat} {ds : List Nat} {e : Int} {B : Nat} (h : MK w n ds e W) (hk : Keeps B (fun _ => False) W W') (hB : w.heap.size ≤ B) (hd : ∀ D ∈ ds, D < B) : MK w n ds e W' :=
  h.keep (hk.below h.below (by have := h.size; omega) hB (fun _ h => h.elim)) hk.size fun b o hbo hb => hk.same b o hbo id (by
    rcases hb with r | r | r | r | r
    · right; have := h.c4; subst r; rw [show W.heap[w.heap.size]? = _ from this] at hbo; cases hbo; rfl
    · right; have := h.c5; subst r; rw [show W.heap[w.heap.size + 1]? = _ from this] at hbo; cases hbo; rfl
    · right; have := h.pl; subst r; rw [show W.heap[w.heap.size + 4]? = _ from this] at hbo; cases hbo; rfl
    · right; have := h.px; subst r; rw [show W.heap[w.heap.size + 5]? = _ from this] at hbo; cases hbo; rfl
    · left; exact hd b r)
theorem MapN.keeps {W W' : World} {b n B : Nat} {f : Nat → Nat} (h : MapN W b n f) (hk : Keeps B (fun _ => False) W W') : MapN W' b n f := by
  have h0 := h
  obtain ⟨D, ⟨es, clock, hb, r⟩, h2⟩ := h
  exact h0.of_block ((hk.same b _ hb id (.inr rfl)).trans hb.symm)
theorem MapN.of_set {W : World} {b n : Nat} {f : Nat → Nat} {a : Addr} {v : Value} (h : MapN W b n f) (hne : b ≠ a.block) : MapN (W.setCell a v) b n f := h.set hne

theorem MK.more {w W : World} {n : Nat} {ds : List Nat} {e : Int} {D : Nat} (h : MK w n ds e W) (hD : W.heap[D]? = some (.deferred (some []))) (hl : w.heap.size + 6 ≤ D) : MK w n (D :: ds) e W :=
  ⟨h.c4, h.c5, h.pl, h.px, fun x hx => by
    rcases List.mem_cons.1 hx with e | hx
    · rw [e]; exact hD
    · exact h.dfr x hx, fun x hx => by
    rcases List.mem_cons.1 hx with e | hx
    · rw [e]; exact hl
    · exact h.low x hx, h.below, h.size⟩

/-- The marks are gone through at the call's end: whatever abides their turn holds behind them. -/
theorem leave_marks {F : Fence} {nF : Nat} {P : Program} {fn : Func} {tmps : Array Value} {R : Ending → World → Prop} (I : World → Prop) (hend : ∀ W, I W → ∃ v, (results fn tmps).run P W = .ok v W ∧ R (.returned v) W) :
    ∀ (ds : List Nat), ds.Nodup → (∀ W D, D ∈ ds → I W → I (W.putObj D (.deferred none))) → ∀ W, I W → (∀ D ∈ ds, W.heap[D]? = some (.deferred (some []))) → LeavesInM F nF P fn tmps R (ds.map mk) .returning W
  | [], _, _, W, hI, _ => by
    obtain ⟨v, h1, h2⟩ := hend W hI
    exact ⟨v, h1, h2⟩
  | D :: ds, hnd, hput, W, hI, hd => by
    refine ⟨by simp, .inl ⟨D, _, rfl, run_takeDeferred (hd D (by simp)), ?_⟩⟩
    have hnd := List.nodup_cons.1 hnd
    exact leave_marks I hend ds hnd.2 (fun W E hE => hput W E (by simp [hE])) _ (hput W D (by simp) hI) fun E hE => (World.putObj_heap_other (fun e : E = D => hnd.1 (by rw [← e]; exact hE))).trans (hd E (by simp [hE]))

end Go.Proofs.Ytcfpgcejahfdfab

/- A range over a function value, where the iterator may write cells of its own and read memory between two rounds. -/
import Derived.RangeFuncNested
import Derived.RangeFuncBound
import Derived.RangeFuncCalls
import Derived.RangeFuncLeaves
import Derived.Shelf.Abstract
import Derived.OwnWalkIn
import Derived.TacticsInMore
import Derived.LoopNIn
import Derived.LoopIn
import Derived.Maps.OwnIn
import Derived.Test.YtcfpgcejahfdfabBase
namespace Go.Proofs.Ytcfpgcejahfdfab
open Go.RowKit
set_option linter.unusedVariables false
set_option linter.unusedSimpArgs false

/-- Cells and maps: what a caller's own words speak of. -/
def isData : Obj → Bool
  | .cells .. => true
  | .map .. => true
  | _ => false

/-- What an iterator may do: new blocks; its own cells; from B on whatever is no data. -/
structure Keeps (B : Nat) (own : Nat → Prop) (W W' : World) : Prop where
  os : W'.os = W.os
  tape : W'.tape = W.tape
  output : W'.output = W.output
  size : W.heap.size ≤ W'.heap.size
  same : ∀ b o, W.heap[b]? = some o → ¬ own b → (b < B ∨ isData o = true) → W'.heap[b]? = some o

theorem Keeps.refl (B : Nat) (own : Nat → Prop) (W : World) : Keeps B own W W := ⟨rfl, rfl, rfl, Nat.le_refl _, fun _ _ h _ _ => h⟩
theorem Keeps.trans {B : Nat} {own : Nat → Prop} {A C D : World} (h : Keeps B own A C) (k : Keeps B own C D) : Keeps B own A D :=
  ⟨k.os.trans h.os, k.tape.trans h.tape, k.output.trans h.output, Nat.le_trans h.size k.size, fun b o hb hn hd => k.same b o (h.same b o hb hn hd) hn hd⟩
theorem Keeps.less {B B' : Nat} {own : Nat → Prop} {W W' : World} (h : Keeps B own W W') (hB : B' ≤ B) : Keeps B' own W W' :=
  ⟨h.os, h.tape, h.output, h.size, fun b o hb hn hd => h.same b o hb hn (hd.imp (fun h => by omega) id)⟩
theorem Keeps.alloc (B : Nat) (own : Nat → Prop) (W : World) (o : Obj) : Keeps B own W (W.alloc o) :=
  ⟨rfl, rfl, rfl, by simp, fun b o' hb _ _ => (Below.heap_alloc W o b (Array.getElem?_eq_some_iff.1 hb).1).trans hb⟩
theorem Keeps.drew (B : Nat) (own : Nat → Prop) (W : World) : Keeps B own W W.drew := ⟨rfl, rfl, rfl, Nat.le_refl _, fun _ _ h _ _ => h⟩
theorem Keeps.setOwn (B : Nat) (own : Nat → Prop) (W : World) (a : Addr) (v : Value) (ha : own a.block) : Keeps B own W (W.setCell a v) :=
  ⟨rfl, rfl, rfl, by simp [World.setCell], fun b o hb hn _ => (Below.heap_setCell W a v b (fun e => hn (e ▸ ha))).trans hb⟩
theorem Keeps.putObj (B : Nat) (own : Nat → Prop) (W : World) (l : Nat) (o o' : Obj) (hl : W.heap[l]? = some o) (hB : B ≤ l) (hd : isData o = false) : Keeps B own W (W.putObj l o') :=
  ⟨rfl, rfl, rfl, by simp, fun b x hb _ h => by
    by_cases e : b = l
    · subst e; rw [hl] at hb; cases hb; rcases h with h | h
      · omega
      · rw [hd] at h; cases h
    · exact (World.putObj_heap_other e).trans hb⟩
theorem Keeps.grown (B : Nat) (own : Nat → Prop) {W W' : World} {row : Option Nat} (hg : W.grownBy W' row) (hr : ∀ k, row = some k → own k ∨ W.heap.size ≤ k ∨ (B ≤ k ∧ ∀ o, W.heap[k]? = some o → isData o = false)) : Keeps B own W W' :=
  ⟨hg.os, hg.tape, hg.output, hg.size, fun b o hb hn hd => (hg.block b (Array.getElem?_eq_some_iff.1 hb).1 (fun e => by
    rcases hr b e.symm with h | h | ⟨h, h2⟩
    · exact hn h
    · have := (Array.getElem?_eq_some_iff.1 hb).1; omega
    · rcases hd with hd | hd
      · omega
      · rw [h2 o hb] at hd; cases hd)).trans hb⟩
theorem Keeps.of_below (B : Nat) (own : Nat → Prop) {W W' : World} (h : Below W.heap.size W W') : Keeps B own W W' :=
  ⟨h.os, h.tape, h.output, h.size, fun b o hb _ _ => (h.block b (Array.getElem?_eq_some_iff.1 hb).1).trans hb⟩

theorem heap_of_cell {W : World} {a : Addr} {v : Value} (h : W.cell? a = some v) : ∃ o : Obj, W.heap[a.block]? = some o ∧ isData o = true := by
  obtain ⟨o, ho, hc⟩ := cells_of_cell h
  exact ⟨o, ho, by cases o <;> simp_all [Obj.isCells, isData]⟩
theorem Keeps.cell {B : Nat} {own : Nat → Prop} {W W' : World} (h : Keeps B own W W') {a : Addr} {v : Value} (hc : W.cell? a = some v) (hn : ¬ own a.block) : W'.cell? a = some v := by
  obtain ⟨o, ho, hd⟩ := heap_of_cell hc
  exact (World.cell?_of_block ((h.same _ _ ho hn (.inr hd)).trans ho.symm)).trans hc
theorem Keeps.frozen {B : Nat} {own : Nat → Prop} {W W' : World} (h : Keeps B own W W') {a : Addr} {v : Value} (hc : W.cell? a = some v) (hn : ¬ own a.block) : W'.frozen? a = W.frozen? a := by
  obtain ⟨o, ho, hd⟩ := heap_of_cell hc
  exact World.frozen?_of_block ((h.same _ _ ho hn (.inr hd)).trans ho.symm)
theorem Keeps.block {B : Nat} {own : Nat → Prop} {W W' : World} (h : Keeps B own W W') {b : Nat} {o : Obj} (hb : W.heap[b]? = some o) (hd : isData o = true) (hn : ¬ own b) : W'.heap[b]? = some o := h.same b o hb hn (.inr hd)
theorem Keeps.ownsRow {B : Nat} {own : Nat → Prop} {W W' : World} (h : Keeps B own W W') {base : Nat} {e : TypeId} {size : Nat} {v : Value} {n : Nat} {xs : List Value} (hr : W.ownsRow base e size v n xs) (hn : ∀ b, own b → v.ownBlock ≠ some b) : W'.ownsRow base e size v n xs := by
  obtain ⟨h1, h2⟩ := hr
  refine ⟨h1, ?_⟩
  rcases h2 with h2 | ⟨g, cap, cur, hv, hg, hh, r⟩
  · exact .inl h2
  · exact .inr ⟨g, cap, cur, hv, hg, h.same _ _ hh (fun ho => hn g ho (by rw [hv]; rfl)) (.inr rfl), r⟩
theorem Keeps.below {B : Nat} {own : Nat → Prop} {W W' : World} (h : Keeps B own W W') {n₀ : Nat} {w : World} (hb : Below n₀ w W) (hs : n₀ ≤ W.heap.size) (hB : n₀ ≤ B) (hn : ∀ b, own b → n₀ ≤ b) : Below n₀ w W' :=
  hb.trans ⟨h.os, h.tape, h.output, h.size, fun k hk => by
    cases ho : W.heap[k]? with
    | none =>
      have h1 : W.heap.size ≤ k := by simpa using ho
      omega
    | some o => exact h.same k o ho (fun e => by have := hn k e; omega) (.inl (by omega))⟩

/-- What the body of a round does: what is no data, from B on, lies as it lay; so do the blocks that the iterator reads. -/
structure Round (B : Nat) (rd : Nat → Prop) (W W' : World) : Prop where
  size : W.heap.size ≤ W'.heap.size
  book : ∀ b o, B ≤ b → W.heap[b]? = some o → isData o = false → W'.heap[b]? = some o
  read : ∀ b, rd b → b < W.heap.size → W'.heap[b]? = W.heap[b]?

theorem Round.refl (B : Nat) (rd : Nat → Prop) (W : World) : Round B rd W W := ⟨Nat.le_refl _, fun _ _ _ h _ => h, fun _ _ _ => rfl⟩
theorem Round.trans {B : Nat} {rd : Nat → Prop} {A C D : World} (h : Round B rd A C) (k : Round B rd C D) : Round B rd A D :=
  ⟨Nat.le_trans h.size k.size, fun b o hB hb hd => k.book b o hB (h.book b o hB hb hd) hd, fun b hb hs => (k.read b hb (Nat.lt_of_lt_of_le hs h.size)).trans (h.read b hb hs)⟩
theorem Round.alloc (B : Nat) (rd : Nat → Prop) (W : World) (o : Obj) : Round B rd W (W.alloc o) :=
  ⟨by simp, fun b o' _ hb _ => (Below.heap_alloc W o b (Array.getElem?_eq_some_iff.1 hb).1).trans hb, fun b _ hs => Below.heap_alloc W o b hs⟩
theorem Round.drew (B : Nat) (rd : Nat → Prop) (W : World) : Round B rd W W.drew := ⟨Nat.le_refl _, fun _ _ _ h _ => h, fun _ _ _ => rfl⟩
theorem Round.drewN (B : Nat) (rd : Nat → Prop) (W : World) (n : Nat) : Round B rd W (W.drewN n) := ⟨Nat.le_refl _, fun _ _ _ h _ => h, fun _ _ _ => rfl⟩
theorem Round.setCell (B : Nat) (rd : Nat → Prop) (W : World) (a : Addr) (v : Value) (ha : ¬ rd a.block) : Round B rd W (W.setCell a v) :=
  ⟨by simp [World.setCell], fun b o _ hb hd => by
    have h2 := (KeepsOthers.setCell W a v).same b o hb
    apply h2
    cases o <;> simp_all [Obj.isCells, isData], fun b hb _ => Below.heap_setCell W a v b (fun e => ha (e ▸ hb))⟩
theorem Round.of_below (B : Nat) (rd : Nat → Prop) {W W' : World} (h : Below W.heap.size W W') : Round B rd W W' :=
  ⟨h.size, fun b o _ hb _ => (h.block b (Array.getElem?_eq_some_iff.1 hb).1).trans hb, fun b _ hs => h.block b hs⟩
theorem Round.grown (B : Nat) (rd : Nat → Prop) {W W' : World} {row : Option Nat} (hg : W.grownBy W' row) (hr : ∀ k, row = some k → ¬ rd k ∧ (k < B ∨ ∀ o, W.heap[k]? = some o → isData o = true)) : Round B rd W W' :=
  ⟨hg.size, fun b o hB hb hd => (hg.block b (Array.getElem?_eq_some_iff.1 hb).1 (fun e => by
      rcases (hr b e.symm).2 with h | h
      · omega
      · rw [h o hb] at hd; cases hd)).trans hb,
    fun b hb hs => hg.block b hs (fun e => (hr b e.symm).1 hb)⟩
theorem Round.less {B B' : Nat} {rd : Nat → Prop} {W W' : World} (h : Round B rd W W') (hB : B ≤ B') : Round B' rd W W' := ⟨h.size, fun b o hb => h.book b o (by omega), h.read⟩
theorem Round.putObj (B : Nat) (rd : Nat → Prop) (W : World) (l : Nat) (o' : Obj) (hl : ¬ rd l) (hB : l < B) : Round B rd W (W.putObj l o') :=
  ⟨by simp, fun b o hb h _ => (World.putObj_heap_other (by omega)).trans h, fun b hb _ => World.putObj_heap_other (fun e => hl (e ▸ hb))⟩

/-- The contract of an iterator value (function gf, what it has captured: lb), at the world w0: it hands over one by one the things of a list of which S holds at the end, and Sp of each beginning that came (encs: the values of one round); 'own': the blocks that it writes; 'rd': those that a round must leave alone. -/
def IterS {α : Type} (P : Program) (gf : Nat) (lb : Array Value) (encs : α → Array Value) (own rd : Nat → Prop) (S Sp : List α → Prop) (w0 : World) : Prop :=
  ∀ (l : Nat) (J Jx : List α → World → Prop) (W : World), Below w0.heap.size w0 W →
    (∀ s A C, J s A → Keeps W.heap.size own A C → J s C) → (∀ s A C, Jx s A → Keeps W.heap.size own A C → Jx s C) →
    (∀ pre x W1, J pre W1 → Sp (pre ++ [x]) → YieldAt Fence.wide 1 P l (encs x) W1 fun e W' =>
      (e = .returned (.bool true) ∧ J (pre ++ [x]) W' ∧ Round W.heap.size rd W1 W') ∨ (e = .returned (.bool false) ∧ Jx (pre ++ [x]) W')) →
    J [] W →
    CallsIn Fence.wide 2 P gf (#[.func (.yield l) #[] #[]] ++ lb) W fun e W' => (∃ v, e = .returned v) ∧ ((∃ xs, S xs ∧ J xs W') ∨ ∃ pre, Sp pre ∧ Jx pre W')
/-- The same of one list. -/
def Iter {α : Type} (P : Program) (gf : Nat) (lb : Array Value) (encs : α → Array Value) (own rd : Nat → Prop) (xs : List α) (w0 : World) : Prop :=
  ∀ (l : Nat) (J Jx : List α → World → Prop) (W : World), Below w0.heap.size w0 W →
    (∀ s A C, J s A → Keeps W.heap.size own A C → J s C) → (∀ s A C, Jx s A → Keeps W.heap.size own A C → Jx s C) →
    (∀ pre x W1, J pre W1 → (pre ++ [x]) <+: xs → YieldAt Fence.wide 1 P l (encs x) W1 fun e W' =>
      (e = .returned (.bool true) ∧ J (pre ++ [x]) W' ∧ Round W.heap.size rd W1 W') ∨ (e = .returned (.bool false) ∧ Jx (pre ++ [x]) W')) →
    J [] W →
    CallsIn Fence.wide 2 P gf (#[.func (.yield l) #[] #[]] ++ lb) W fun e W' => (∃ v, e = .returned v) ∧ (J xs W' ∨ ∃ pre, pre <+: xs ∧ Jx pre W')
theorem Iter.toS {α : Type} {P : Program} {gf : Nat} {lb : Array Value} {encs : α → Array Value} {own rd : Nat → Prop} {xs : List α} {w0 : World} (h : Iter P gf lb encs own rd xs w0) : IterS P gf lb encs own rd (· = xs) (· <+: xs) w0 :=
  fun l J Jx W hW hJ hJx hY h0 => (h l J Jx W hW hJ hJx hY h0).mono fun e W' ⟨hv, hr⟩ => ⟨hv, hr.imp (fun h => ⟨_, rfl, h⟩) id⟩

/-- How the body of a round may be left. -/
def bodyLeft {α : Type} (B : Nat) (rd : Nat → Prop) (I : List α → World → Prop) (Ix : Code → List α → World → Prop) (xs : List α) (W : World) : Exit → Act → World → Prop
  | .normal, _, W' => Round B rd W W' ∧ I xs W'
  | .ret, _, W' => Round B rd W W' ∧ Ix .ret xs W'
  | .exit id, _, W' => Round B rd W W' ∧ Ix (.exit id) xs W'
  | .goto t, _, W' => Round B rd W W' ∧ Ix (.goto t) xs W'
  | .panic _, _, _ => False
  | .outgrown, _, _ => False

theorem range_lawS {α : Type} {P : Program} {g : Operand} {ps : Array Tmp} {assign body : Code} {Q : Exit → Act → World → Prop} {a : Act} {w : World}
    {gf : Nat} {lb : Array Value} (hg : a.eval g = .func (.func gf) #[] lb) (eg : ∀ args w, (callFunc gf args).run P w = .ok (.enter gf args) w)
    {encs : α → Array Value} {own rd : Nat → Prop} {S Sp : List α → Prop} (hown : ∀ b, own b → b < w.heap.size) (hrd : ∀ b, rd b → b < w.heap.size)
    (hseq : IterS P gf lb encs own rd S Sp w) (hps : ∀ x, (encs x).size = ps.size)
    (I : List α → World → Prop) (Ix : Code → List α → World → Prop)
    (hI : ∀ s A C, I s A → Keeps w.heap.size own A C → I s C) (hIx : ∀ c s A C, Ix c s A → Keeps w.heap.size own A C → Ix c s C) (h0 : I [] w)
    (hround : ∀ (l : Nat) (pre : List α) (x : α) (W : World), w.heap.size ≤ l → Sp (pre ++ [x]) → I pre W →
      assign.wpIn (Fence.wide.inRound l) 1 P (Exit.then (fun a₁ W1 => W1 = W ∧ ∀ W2, w.heap.size ≤ W2.heap.size → I pre W2 → body.wpIn (Fence.wide.inRound l) 1 P (bodyLeft w.heap.size rd I Ix (pre ++ [x]) W2) a₁ W2) (fun _ _ _ => False))
        { tmps := (ps.zip (encs x)).foldl (fun t (p, v) => t.setIfInBounds p v) a.tmps, defers := [] } W)
    (hdone : ∀ (D : Nat) (xs : List α) (W : World), w.heap.size ≤ D → S xs → I xs W → W.heap[D]? = some (.deferred (some [])) → Q .normal { a with defers := { target := .collected D, args := #[] } :: a.defers } W)
    (hstop : ∀ (D : Nat) (c : Code) (pre : List α) (W : World), w.heap.size ≤ D → Sp pre → Ix c pre W → W.heap[D]? = some (.deferred (some [])) → c.wp P Q { a with defers := { target := .collected D, args := #[] } :: a.defers } W) :
    (Code.rangeFunc g ps assign body).wp P Q a w := by
  refine (wpIn_wide (n := 3)).1 (wpIn_rangeFunc ?_)
  intro fn _
  obtain ⟨rec, hrec⟩ : ∃ rec : LoopState → Option Code → Loop, rec = fun st pe => { state := st, pending := pe, fn, tmps := a.tmps, params := ps, assign, body, defers := w.heap.size } := ⟨_, rfl⟩
  obtain ⟨W1, hW1⟩ : ∃ W1, (w.alloc (.deferred (some []))).alloc (.loop (rec .ready none)) = W1 := ⟨_, rfl⟩
  have hs1 : W1.heap.size = w.heap.size + 2 := by rw [← hW1]; simp
  have hL1 : W1.heap[w.heap.size + 1]? = some (.loop (rec .ready none)) := by
    rw [← hW1]; have := World.alloc_heap_new (w.alloc (.deferred (some []))) (.loop (rec .ready none)); rwa [World.size_alloc] at this
  have hK1 : W1.heap[w.heap.size]? = some (.deferred (some [])) := by
    rw [← hW1]; exact (Below.heap_alloc _ _ _ (by simp)).trans (World.alloc_heap_new w _)
  have hI1 : I [] W1 := by rw [← hW1]; exact hI _ _ _ (hI _ _ _ h0 (Keeps.alloc _ _ _ _)) (Keeps.alloc _ _ _ _)
  have hb1 : Below w.heap.size w W1 := by rw [← hW1]; exact ((Below.refl _ w).alloc (Nat.le_refl _) _).alloc (by simp) _
  -- the two blocks of book-keeping abide what the iterator does
  have kl : ∀ {A C : World} {o : Obj} {b : Nat}, Keeps W1.heap.size own A C → A.heap[b]? = some o → w.heap.size ≤ b → b < W1.heap.size → C.heap[b]? = some o :=
    fun hk hb h1 h2 => hk.same _ _ hb (fun ho => by have := hown _ ho; omega) (.inl h2)
  refine ⟨w.heap.size + 1, [{ target := .collected w.heap.size, args := #[] }], W1, { target := .fn (.func gf) lb, args := #[.func (.yield (w.heap.size + 1)) #[] #[]] }, W1, gf,
    #[.func (.yield (w.heap.size + 1)) #[] #[]] ++ lb, W1, ?_, ?_, ?_, ?_, fun _ => by omega, ?_⟩
  · rw [← hW1, hrec]; exact run_enterLoop_outer _ _ _ _ _
  · simp only [resolve, hg]
    simp [go_sem]
  · intro f' hf'; trivial
  · simp [invoke, go_sem, eg]
  · refine (hseq (w.heap.size + 1)
      (fun pre W => I pre W ∧ w.heap.size + 2 ≤ W.heap.size ∧ W.heap[w.heap.size + 1]? = some (.loop (rec .ready none)) ∧ W.heap[w.heap.size]? = some (.deferred (some [])))
      (fun pre W => Sp pre ∧ ∃ c, Ix c pre W ∧ W.heap[w.heap.size + 1]? = some (.loop (rec .done (some c))) ∧ W.heap[w.heap.size]? = some (.deferred (some [])))
      W1 hb1
      (fun s A C hs hk => ⟨hI s A C hs.1 (hk.less (by omega)), Nat.le_trans hs.2.1 hk.size, kl hk hs.2.2.1 (by omega) (by omega), kl hk hs.2.2.2 (by omega) (by omega)⟩)
      (fun s A C hs hk => by
        obtain ⟨hp, c, hc, hl, hd⟩ := hs
        exact ⟨hp, c, hIx c s A C hc (hk.less (by omega)), kl hk hl (by omega) (by omega), kl hk hd (by omega) (by omega)⟩)
      ?_ ⟨hI1, by omega, hL1, hK1⟩).mono ?_
    · -- one round
      rintro pre x W ⟨hi, hsz, hl, hd⟩ hpre
      have hlt : w.heap.size + 1 < W.heap.size := by omega
      have hy := run_yield (P := P) (args := encs x) hl (by rw [hrec]; exact hps x)
      rw [hrec] at hy
      refine ⟨fn, _, assign, body, hy, roundIn_of_wpIn (F := Fence.wide) trivial (wpIn_mono (hround _ pre x W (by omega) hpre hi) ?_)⟩
      intro e0 a0 W0 h0'
      cases e0 with
      | normal => ?_
      | ret => exact h0'.elim
      | exit id => exact h0'.elim
      | goto t => exact h0'.elim
      | panic ch => exact h0'.elim
      | outgrown => exact h0'.elim
      obtain ⟨rfl, hb0⟩ := h0'
      refine ⟨_, run_beginRound hl (by rw [hrec]), ?_⟩
      have hl2 : (W0.putObj (w.heap.size + 1) (.loop { rec .ready none with state := .busy })).heap[w.heap.size + 1]? = some (.loop { rec .ready none with state := .busy }) := World.putObj_heap_same hlt
      have hk2 : (W0.putObj (w.heap.size + 1) (.loop { rec .ready none with state := .busy })).heap[w.heap.size]? = some (.deferred (some [])) := (World.putObj_heap_other (by omega)).trans hd
      have hR1 : Round W1.heap.size rd W0 (W0.putObj (w.heap.size + 1) (.loop { rec .ready none with state := .busy })) := Round.putObj _ _ _ _ _ (fun h => by have := hrd _ h; omega) (by omega)
      refine wpIn_mono (hb0 _ (by simp; omega) (hI _ _ _ hi (Keeps.putObj _ _ _ _ _ _ hl (by omega) rfl))) ?_
      have fin : ∀ (jump : Option Code) (W3 : World), Round w.heap.size rd (W0.putObj (w.heap.size + 1) (.loop { rec .ready none with state := .busy })) W3 →
          (Instr.endRound (w.heap.size + 1) jump).run P W3 = .ok (.bool jump.isNone) (W3.putObj (w.heap.size + 1) (.loop (rec (if jump.isNone then .ready else .done) jump))) ∧
          W3.heap[w.heap.size + 1]? = some (.loop { rec .ready none with state := .busy }) ∧
          (W3.putObj (w.heap.size + 1) (.loop (rec (if jump.isNone then .ready else .done) jump))).heap[w.heap.size + 1]? = some (.loop (rec (if jump.isNone then .ready else .done) jump)) ∧
          (W3.putObj (w.heap.size + 1) (.loop (rec (if jump.isNone then .ready else .done) jump))).heap[w.heap.size]? = some (.deferred (some [])) ∧ w.heap.size + 2 ≤ W3.heap.size := fun jump W3 hk3 => by
        have hl3 := hk3.book _ _ (by omega) hl2 rfl
        have := run_endRound (P := P) jump hl3
        have hs3 := hk3.size
        simp only [World.putObj_size] at hs3
        rw [hrec] at this ⊢
        exact ⟨this, by rw [hrec] at hl3; exact hl3, World.putObj_heap_same (by omega), (World.putObj_heap_other (by omega)).trans (hk3.book _ _ (Nat.le_refl _) hk2 rfl), by omega⟩
      rintro e a3 W3 hp
      cases e with
      | normal =>
        obtain ⟨hk3, hi3⟩ := hp
        obtain ⟨hr, hl3, hl4, hk4, hs3⟩ := fin none W3 hk3
        exact ⟨_, _, hr, .inl ⟨rfl, ⟨hI _ _ _ hi3 (Keeps.putObj _ _ _ _ _ _ hl3 (by omega) rfl), by simp; omega, hl4, hk4⟩,
          (hR1.trans (hk3.less (by omega))).trans (Round.putObj _ _ _ _ _ (fun h => by have := hrd _ h; omega) (by omega))⟩⟩
      | ret =>
        obtain ⟨hk3, hi3⟩ := hp
        obtain ⟨hr, hl3, hl4, hk4, hs3⟩ := fin (some .ret) W3 hk3
        exact ⟨_, _, hr, .inr ⟨rfl, hpre, .ret, hIx _ _ _ _ hi3 (Keeps.putObj _ _ _ _ _ _ hl3 (by omega) rfl), hl4, hk4⟩⟩
      | exit id =>
        obtain ⟨hk3, hi3⟩ := hp
        obtain ⟨hr, hl3, hl4, hk4, hs3⟩ := fin (some (.exit id)) W3 hk3
        exact ⟨_, _, hr, .inr ⟨rfl, hpre, .exit id, hIx _ _ _ _ hi3 (Keeps.putObj _ _ _ _ _ _ hl3 (by omega) rfl), hl4, hk4⟩⟩
      | goto t =>
        obtain ⟨hk3, hi3⟩ := hp
        obtain ⟨hr, hl3, hl4, hk4, hs3⟩ := fin (some (.goto t)) W3 hk3
        exact ⟨_, _, hr, .inr ⟨rfl, hpre, .goto t, hIx _ _ _ _ hi3 (Keeps.putObj _ _ _ _ _ _ hl3 (by omega) rfl), hl4, hk4⟩⟩
      | panic ch => exact hp.elim
      | outgrown => exact hp.elim
    · -- behind the iterator
      rintro e W2 ⟨⟨v, rfl⟩, (⟨xs, hS, hi, hsz, hl, hd⟩ | ⟨pre, hSp, _, c, hi, hl, hd⟩)⟩
      · exact ⟨none, _, by have := run_endLoop (P := P) hl (by rw [hrec]; simp); rw [hrec] at this; exact this, hdone _ xs _ (Nat.le_refl _) hS (hI _ _ _ hi (Keeps.putObj _ _ _ _ _ _ hl (by omega) rfl)) ((World.putObj_heap_other (by omega)).trans hd)⟩
      · exact ⟨some c, _, by have := run_endLoop (P := P) hl (by rw [hrec]; simp); rw [hrec] at this; exact this, wpIn_wide.2 (hstop _ c pre _ (Nat.le_refl _) hSp (hIx _ _ _ _ hi (Keeps.putObj _ _ _ _ _ _ hl (by omega) rfl)) ((World.putObj_heap_other (by omega)).trans hd))⟩

theorem range_law {α : Type} {P : Program} {g : Operand} {ps : Array Tmp} {assign body : Code} {Q : Exit → Act → World → Prop} {a : Act} {w : World}
    {gf : Nat} {lb : Array Value} (hg : a.eval g = .func (.func gf) #[] lb) (eg : ∀ args w, (callFunc gf args).run P w = .ok (.enter gf args) w)
    {encs : α → Array Value} {own rd : Nat → Prop} {xs : List α} (hown : ∀ b, own b → b < w.heap.size) (hrd : ∀ b, rd b → b < w.heap.size)
    (hseq : Iter P gf lb encs own rd xs w) (hps : ∀ x, (encs x).size = ps.size)
    (I : List α → World → Prop) (Ix : Code → List α → World → Prop)
    (hI : ∀ s A C, I s A → Keeps w.heap.size own A C → I s C) (hIx : ∀ c s A C, Ix c s A → Keeps w.heap.size own A C → Ix c s C) (h0 : I [] w)
    (hround : ∀ (l : Nat) (pre : List α) (x : α) (W : World), w.heap.size ≤ l → (pre ++ [x]) <+: xs → I pre W →
      assign.wpIn (Fence.wide.inRound l) 1 P (Exit.then (fun a₁ W1 => W1 = W ∧ ∀ W2, w.heap.size ≤ W2.heap.size → I pre W2 → body.wpIn (Fence.wide.inRound l) 1 P (bodyLeft w.heap.size rd I Ix (pre ++ [x]) W2) a₁ W2) (fun _ _ _ => False))
        { tmps := (ps.zip (encs x)).foldl (fun t (p, v) => t.setIfInBounds p v) a.tmps, defers := [] } W)
    (hdone : ∀ (D : Nat) (W : World), w.heap.size ≤ D → I xs W → W.heap[D]? = some (.deferred (some [])) → Q .normal { a with defers := { target := .collected D, args := #[] } :: a.defers } W)
    (hstop : ∀ (D : Nat) (c : Code) (pre : List α) (W : World), w.heap.size ≤ D → pre <+: xs → Ix c pre W → W.heap[D]? = some (.deferred (some [])) → c.wp P Q { a with defers := { target := .collected D, args := #[] } :: a.defers } W) :
    (Code.rangeFunc g ps assign body).wp P Q a w :=
  range_lawS hg eg hown hrd hseq.toS hps I Ix hI hIx h0 hround (fun D ys W hD hS h hK => by subst hS; exact hdone D W hD h hK) hstop
end Go.Proofs.Ytcfpgcejahfdfab

/- slices.AppendSeq and slices.Collect at uint64, over whatever iterator; maps.Keys. -/
import Derived.Test.YtcfpgcejahfdfabKeys
namespace Go.Proofs.Ytcfpgcejahfdfab
open Go.RowKit Go.Maps Go.Shelf
attribute [local go_sem] Oper.semAt_some
set_option linter.unusedVariables false
set_option linter.unusedSimpArgs false

theorem IterS.step {α : Type} {P : Program} {gf : Nat} {lb : Array Value} {encs : α → Array Value} {own rd : Nat → Prop} {S Sp : List α → Prop} {w0 w1 : World} (h : IterS P gf lb encs own rd S Sp w0) (hb : Below w0.heap.size w0 w1) : IterS P gf lb encs own rd S Sp w1 :=
  fun l J Jx W hW => h l J Jx W (hb.trans (hW.mono hb.size))

/-- Between two rounds: what has come lies in a row of the call's own. -/
def ApI (w : World) (pre : List Nat) (W : World) : Prop :=
  ∃ v, Boxed W w.heap.size 23 v ∧ W.ownsRow (w.heap.size + 1) 22 1 v pre.length (pre.map uv) ∧ Below w.heap.size w W ∧ w.heap.size + 1 ≤ W.heap.size
theorem ApI.keeps {w : World} {pre : List Nat} {A C : World} {K : Nat} (h : ApI w pre A) (hk : Keeps K (fun _ => False) A C) (hK : w.heap.size ≤ K) : ApI w pre C := by
  obtain ⟨v, h1, h2, h3, h4⟩ := h
  exact ⟨v, hk.block h1 rfl id, hk.ownsRow h2 (fun _ h => h.elim), hk.below h3 (by omega) hK (fun _ h => h.elim), Nat.le_trans h4 hk.size⟩

/-- What is handed back: a row of a list of which S holds. -/
def RowOf (S : List Nat → Prop) (w : World) (e : Ending) (W : World) : Prop :=
  ∃ xs v, S xs ∧ e = .returned v ∧ W.ownsRow w.heap.size 22 1 v xs.length (xs.map uv) ∧ Below w.heap.size w W

set_option maxRecDepth 100000 in
set_option maxHeartbeats 2000000 in
theorem appendSeq_any (gf : Nat) (lb : Array Value) (rd : Nat → Prop) (S Sp : List Nat → Prop) (w : World) (eg : ∀ args w, (callFunc gf args).run Try.prog w = .ok (.enter gf args) w)
    (hseq : IterS Try.prog gf lb (fun x : Nat => #[.int .u64 (x : Int)]) (fun _ => False) rd S Sp w) (hrd : ∀ b, rd b → b < w.heap.size) (hSp : ∀ pre, Sp pre → pre.length ≤ 1125899906842) :
    Calls Try.prog 109 #[.slice none 0 0, .func (.func gf) #[] lb] w (RowOf S w) := by
  refine (callsIn_wide (n := 3)).1 (callsIn_of_wp_marks Try.func109 rfl trivial (wpIn_wide.2 ?_))
  simp only [Try.ntmps109, List.size_toArray, List.length_cons, List.length_nil, Nat.reduceAdd, Nat.reduceSub, Array.replicate_succ, Array.replicate_zero, List.push_toArray, List.append_toArray, List.nil_append, List.cons_append]
  obtain ⟨i0, hi, hz0, hz1, hz2⟩ := info_parts Pinfo_u64
  go_wp2_with fail
  refine range_lawS (encs := fun x : Nat => #[.int .u64 (x : Int)]) (own := fun _ => False) (rd := rd) (S := S) (Sp := Sp) rfl eg (fun _ h => h.elim) (fun b h => by have := hrd b h; simp; omega)
    (hseq.step ((Below.refl _ _).alloc (Nat.le_refl _) _)) (fun _ => rfl) (ApI w) (fun _ _ _ => False) (fun s A C h hk => h.keeps hk (by simp)) (fun _ _ _ _ h _ => h)
    ⟨.slice none 0 0, Boxed.new _ _ _, World.ownsRow_nil _ _ _ _, (Below.refl _ _).alloc (Nat.le_refl _) _, by simp⟩ ?round ?done (fun _ _ _ _ _ _ h _ => h.elim)
  case round =>
    intro l pre x W hl hpre hI
    gi_wp2
    refine ⟨trivial, ?_⟩
    clear hI W hl
    intro W _ hI
    obtain ⟨v, hb0, hrow, hB, hsz⟩ := hI
    have hc0 := hb0.cell
    have hf0 := hb0.frozen
    have hlen : pre.length ≤ 1125899906842 := by have := hSp _ hpre; simp at this; omega
    have hrd' : ∀ b, w.heap.size ≤ b → ¬ rd b := fun b h h2 => by have := hrd b h2; omega
    have HRD := Lib.hid hrd'
    clear hpre hrd'
    gi_wp2_with (gi_at_builtin; refine wpListIn_append_own _ rfl _ _ 23 rfl (w.heap.size + 1) 22 i0 (.int .u64 0) 1 8 Try.underlying23 hi hz0 hz1 hz2 rfl (by decide) v _ _ rfl (hrow.alloc _) ⟨W.heap.size, 0, none⟩ 1 1 [uv x] rfl rfl (one_news _ _ _ _) (by simp [uv, Value.oneCell']) (by unfold maxLen; omega) (by omega) (by simp; omega) ?_; intro v' w1 hown' hgrow _; obtain ⟨g', cap', rfl⟩ := ownsRow_succ hown'; have hb0' := box_grown hb0 hrow (by omega) hgrow; have hc0' := hb0'.cell; have hf0' := hb0'.frozen)
    have hB2 := (hB.alloc (by omega) (.cells #[.int .u64 (x : Int)] 22)).grown hgrow (by simp; omega) (fun k hk => by have := (hrow.lt k hk).1; omega)
    have hs2 : w.heap.size + 1 ≤ w1.heap.size := by have := hgrow.size; simp at this; omega
    refine ⟨((Round.alloc _ _ W _).trans (Round.grown _ _ hgrow fun k hk => ⟨HRD.out k (by have := (hrow.lt k hk).1; omega), .inr fun o ho => ?_⟩)).trans (Round.setCell _ _ _ _ _ (HRD.out _ (by simp))), _, hb0'.set _, ?_, hB2.setCell (by simp) _, by simpa [World.setCell] using hs2⟩
    · rcases (hrow.alloc (.cells #[.int .u64 (x : Int)] 22)).2 with ⟨rfl, _⟩ | ⟨g, cap, cur, rfl, _, hgb, _⟩
      · simp [Value.ownBlock] at hk
      · obtain rfl : g = k := by simpa [Value.ownBlock] using hk
        rw [hgb] at ho; cases ho; rfl
    · have := ownsRow_setCell_below hown' (a := ⟨w.heap.size, 0, none⟩) (by simp) (.slice (some ⟨g', 0, none⟩) (pre.length + 1) cap')
      rw [show (pre ++ [x]).map uv = pre.map uv ++ [uv x] by simp, show (pre ++ [x]).length = pre.length + 1 by simp]; exact this
  case done =>
    intro D xs W hD hS hI hK
    obtain ⟨v, hb0, hrow, hB, hsz⟩ := hI
    have hc0 := hb0.cell
    have hD2 : w.heap.size + 1 ≤ D := by simpa using hD
    go_wp2_with fail
    refine ⟨by simp, .inl ⟨_, _, rfl, run_takeDeferred hK, ?_⟩⟩
    exact ⟨v, by simp [results, Try.results109, go_sem], xs, v, hS, rfl, own_weaken (ownsRow_putObj hrow _ hK rfl) (by omega), hB.grown (grownBy_putObj' _ D _) (by omega) (fun k hk => by cases hk; omega)⟩

set_option maxHeartbeats 400000 in
theorem collect_any (gf : Nat) (lb : Array Value) (rd : Nat → Prop) (S Sp : List Nat → Prop) (w : World) (eg : ∀ args w, (callFunc gf args).run Try.prog w = .ok (.enter gf args) w)
    (hseq : IterS Try.prog gf lb (fun x : Nat => #[.int .u64 (x : Int)]) (fun _ => False) rd S Sp w) (hrd : ∀ b, rd b → b < w.heap.size) (hSp : ∀ pre, Sp pre → pre.length ≤ 1125899906842) :
    Calls Try.prog 100 #[.func (.func gf) #[] lb] w (RowOf S w) := by
  have cA := appendSeq_any gf lb rd S Sp w eg hseq hrd hSp
  clear hseq hrd hSp eg
  go_enter Try.func100, Try.ntmps100
  go_wp2_with (refine cA.mono ?_; rintro e W1 ⟨xs, v, hS, rfl, hrow, hB⟩)
  go_ret
  exact ⟨xs, v, hS, rfl, hrow, hB⟩

set_option maxHeartbeats 400000 in
theorem keys_any (b : Nat) (w : World) :
    Calls Try.prog 83 #[.map (some b)] w fun e w' =>
      e = .returned (.func (.func 102) #[] #[.pointer (some ⟨w.heap.size, 0, none⟩)]) ∧ w' = w.alloc (.cells #[.map (some b)] 97) := by
  have hmf : ∀ (fn : Fn) (first cap : Array Value) (w : World), (Instr.makeFunc fn first cap).run Try.prog w = .ok (.func fn first cap) w := fun _ _ _ _ => rfl
  go_enter Try.func83, Try.ntmps83
  go_wp2
  go_ret
  exact ⟨rfl, rfl⟩
end Go.Proofs.Ytcfpgcejahfdfab

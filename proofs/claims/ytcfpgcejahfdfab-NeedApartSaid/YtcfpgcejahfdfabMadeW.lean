/- The walk of need.made. -/
import Derived.Test.YtcfpgcejahfdfabMadeL
import Derived.Deep.CutBlock
import Derived.Deep.DeepCutAuto
namespace Go.Proofs.Ytcfpgcejahfdfab
open Go.RowKit Go.Maps Go.Shelf
set_option linter.unusedVariables false
set_option linter.unusedSimpArgs false

/-- A plan in memory, made since w. -/
structure PlanAt (w : World) (n : Nat) (ts : List Nat) (bp bt bw m1 m : Nat) (ft fw : Nat → Nat) (W : World) : Prop where
  lp : w.heap.size ≤ bp
  lt : w.heap.size ≤ bt
  lw : w.heap.size ≤ bw
  ne : ¬ bt = bw
  pl : Blk W bp #[.int .u64 (n : Nat), .int .i64 (rowsN n : Nat), .map (some bt), .map (some bw)] 100
  tg : MapN W bt m1 ft
  ways : MapN W bw m fw
  onT : ∀ j, j < 2 ^ 64 → (0 < ft j ↔ j ∈ ts)
  onW : ∀ j, j < 2 ^ 64 → (0 < fw j ↔ OnWays n ts ts.length j)
  m1le : m1 ≤ ts.length
  mle : m ≤ 70 * ts.length
  below : Below w.heap.size w W

/-- What made tells. -/
def MadeAt (n : Nat) (ts : List Nat) (w : World) (e : Ending) (W : World) : Prop :=
  (¬ Fine n ts ∧ e = .returned (.tuple #[.pointer none, .int .i64 2]) ∧ Below w.heap.size w W) ∨
  (Fine n ts ∧ ∃ bp bt bw m1 m ft fw, e = .returned (.tuple #[.pointer (some ⟨bp, 0, none⟩), .int .i64 0]) ∧ PlanAt w n ts bp bt bw m1 m ft fw W)

theorem Blk.put {W : World} {b D : Nat} {cs : Array Value} {T : TypeId} {o : Obj} (h : Blk W b cs T) (hne : ¬ b = D) : Blk (W.putObj D o) b cs T := (World.putObj_heap_other hne).trans h
theorem MapN.putO {W : World} {b n D : Nat} {f : Nat → Nat} {o : Obj} (h : MapN W b n f) (hne : ¬ b = D) : MapN (W.putObj D o) b n f := h.of_block (World.putObj_heap_other hne)
theorem below_put {w W : World} {D : Nat} {o : Obj} (h : Below w.heap.size w W) (hD : w.heap.size ≤ D) : Below w.heap.size w (W.putObj D o) := h.grown (grownBy_putObj' _ D _) h.size (fun k hk => by cases hk; omega)
theorem PlanAt.put {w W : World} {n : Nat} {ts : List Nat} {bp bt bw m1 m D : Nat} {ft fw : Nat → Nat} {o : Obj} (h : PlanAt w n ts bp bt bw m1 m ft fw W) (h1 : ¬ bp = D) (h2 : ¬ bt = D) (h3 : ¬ bw = D) (hD : w.heap.size ≤ D) : PlanAt w n ts bp bt bw m1 m ft fw (W.putObj D o) :=
  ⟨h.lp, h.lt, h.lw, h.ne, h.pl.put h1, h.tg.putO h2, h.ways.putO h3, h.onT, h.onW, h.m1le, h.mle, below_put h.below hD⟩

/-- A slice of numbers as an argument may be: where it is empty, whatever address it has. -/
def ArgAt (W : World) (v : Value) (xs : List Nat) : Prop :=
  (∃ a cap, v = .slice a 0 cap ∧ xs = []) ∨ ∃ (g off cap : Nat), v = .slice (some ⟨g, off, none⟩) xs.length cap ∧ g < W.heap.size ∧ xs.length ≤ 9223372036854775807 ∧ ∀ j x, xs[j]? = some x → W.cell? ⟨g, off + j, none⟩ = some (uv x)
theorem ArgAt.step {W W' : World} {v : Value} {xs : List Nat} (h : ArgAt W v xs) (hb : Below W.heap.size W W') : ArgAt W' v xs := by
  rcases h with h | ⟨g, off, cap, rfl, hg, hl, hc⟩
  · exact .inl h
  · exact .inr ⟨g, off, cap, rfl, Nat.lt_of_lt_of_le hg hb.size, hl, fun j x hx => (hb.cell (p := ⟨g, off + j, none⟩) hg).trans (hc j x hx)⟩
theorem ArgAt.open {w : World} {v : Value} {ts : List Nat} (h : ArgAt w v ts) : ∃ a len cap, v = .slice a len cap ∧ Hid (ts.length = len) ∧ ∀ k x, ts[k]? = some x → ∃ g off, a = some ⟨g, off, none⟩ ∧ ∀ W', Below w.heap.size w W' → W'.cell? ⟨g, off + k, none⟩ = some (uv x) := by
  rcases h with ⟨a, cap, rfl, rfl⟩ | ⟨g, off, cap, rfl, hg, hl, hc⟩
  · exact ⟨a, 0, cap, rfl, rfl, fun k x h => by simp at h⟩
  · exact ⟨_, _, _, rfl, rfl, fun k x hx => ⟨g, off, rfl, fun W' hb => (hb.cell (p := ⟨g, off + k, none⟩) hg).trans (hc k x hx)⟩⟩

set_option maxRecDepth 100000 in
set_option maxHeartbeats 4000000 in
theorem made_any (n : Nat) (ts : List Nat) (v : Value) (w : World) (hn : n < 2 ^ 64) (hts : ∀ t ∈ ts, t < 2 ^ 64) (hl : ts.length ≤ 1125899906842624) (hv : ArgAt w v ts) :
    Calls Try.prog 46 #[.int .u64 (n : Nat), v] w (MadeAt n ts w) := by
  obtain ⟨a, len, cap, rfl, hlen, hcell⟩ := hv.open
  refine (callsIn_wide (n := 3)).1 (callsIn_of_wp_marks Try.func46 rfl trivial (wpIn_wide.2 ?_))
  simp only [Try.ntmps46, List.size_toArray, List.length_cons, List.length_nil, Nat.reduceAdd, Nat.reduceSub, Array.replicate_succ, Array.replicate_zero, List.push_toArray, List.append_toArray, List.nil_append, List.cons_append]
  have hl2 : (len : Int) ≤ 1125899906842624 := by rw [hlen.out] at hl; omega
  have hmm := @run_makeMap Try.prog
  have cR := fun w => Rows_any n w hn
  have hR := rowsN_le n
  clear hl
  have HN := Lib.hid hn
  have HTS := Lib.hid hts
  have HCELL := Lib.hid hcell
  clear hn hts hcell hv
  cases hok : rowsOk n with
  | false =>
    rw [hok] at cR
    go_wp2_with ((with_reducible refine (cR _).mono ?_); rintro e W1 ⟨rfl, rfl⟩)
    refine ⟨.tuple #[.pointer none, .int .i64 2], by simp [results, Try.results46, go_sem], .inl ⟨fun h => ?_, rfl, ?_⟩⟩
    · rw [h.1] at hok; cases hok
    · (repeat (first | with_reducible assumption | with_reducible exact Below.refl _ _ | ((with_reducible apply bl_set); (focus (first | (simp; done) | (simp; omega) | omega))) | with_reducible apply bl_alloc | with_reducible apply bl_drew | with_reducible apply bl_drewN | ((with_reducible apply bl_step'); (focus (with_reducible assumption)))))
  | true =>
    rw [hok] at cR
    have HOK := Lib.hid hok
    clear hok
    go_wp2_with ((with_reducible refine (cR _).mono ?_); rintro e W1 ⟨rfl, rfl⟩)
    simp only [Nat.add_assoc, Nat.reduceAdd]
    refine wp_name (fun X => MK w n [] 0 X ∧ MapN X (w.heap.size + 2) 0 (fun _ => 0) ∧ MapN X (w.heap.size + 3) 0 (fun _ => 0)) ⟨⟨by (repeat (first | with_reducible assumption | ((with_reducible apply Blk.new'); (focus (first | (simp; done) | omega | (simp; omega))); (exact rfl)) | with_reducible apply Blk.alloc' | with_reducible apply Blk.drew' | with_reducible apply Blk.drewN' | with_reducible apply Blk.set_of | ((with_reducible apply Blk.other'); (focus (first | (simp; done) | omega | (simp; omega)))) | ((with_reducible apply Blk.below'); (focus (with_reducible assumption))) | exact rfl)), by (repeat (first | with_reducible assumption | ((with_reducible apply Blk.new'); (focus (first | (simp; done) | omega | (simp; omega))); (exact rfl)) | with_reducible apply Blk.alloc' | with_reducible apply Blk.drew' | with_reducible apply Blk.drewN' | with_reducible apply Blk.set_of | ((with_reducible apply Blk.other'); (focus (first | (simp; done) | omega | (simp; omega)))) | ((with_reducible apply Blk.below'); (focus (with_reducible assumption))) | exact rfl)), by (repeat (first | with_reducible assumption | ((with_reducible apply Blk.new'); (focus (first | (simp; done) | omega | (simp; omega))); (exact rfl)) | with_reducible apply Blk.alloc' | with_reducible apply Blk.drew' | with_reducible apply Blk.drewN' | with_reducible apply Blk.set_of | ((with_reducible apply Blk.other'); (focus (first | (simp; done) | omega | (simp; omega)))) | ((with_reducible apply Blk.below'); (focus (with_reducible assumption))) | exact rfl)), by (repeat (first | with_reducible assumption | ((with_reducible apply Blk.new'); (focus (first | (simp; done) | omega | (simp; omega))); (exact rfl)) | with_reducible apply Blk.alloc' | with_reducible apply Blk.drew' | with_reducible apply Blk.drewN' | with_reducible apply Blk.set_of | ((with_reducible apply Blk.other'); (focus (first | (simp; done) | omega | (simp; omega)))) | ((with_reducible apply Blk.below'); (focus (with_reducible assumption))) | exact rfl)), by simp, by simp, by (repeat (first | with_reducible assumption | with_reducible exact Below.refl _ _ | ((with_reducible apply bl_set); (focus (first | (simp; done) | (simp; omega) | omega))) | with_reducible apply bl_alloc | with_reducible apply bl_drew | with_reducible apply bl_drewN | ((with_reducible apply bl_step'); (focus (with_reducible assumption))))), by simp⟩, ?_, ?_⟩ ?_
    · have := (MapN.made ((w.alloc (.cells #[.pointer none] 94)).alloc (.cells #[.int .i64 0] 24)))
      rw [show ((w.alloc (.cells #[.pointer none] 94)).alloc (.cells #[.int .i64 0] 24)).heap.size = w.heap.size + 2 by simp] at this
      exact this.alloc.alloc.alloc
    · have := (MapN.made (((w.alloc (.cells #[.pointer none] 94)).alloc (.cells #[.int .i64 0] 24)).alloc (.map #[] 0)))
      rw [show (((w.alloc (.cells #[.pointer none] 94)).alloc (.cells #[.int .i64 0] 24)).alloc (.map #[] 0)).heap.size = w.heap.size + 3 by simp] at this
      exact this.alloc.alloc
    rintro X ⟨hK, hT, hW⟩
    have hc0 := HCELL.out
    have HT0 : Hid (TreesOk n ts 0) := ⟨by simp, by simp⟩
    go_loopw [31] (fun i wr => ∃ (k : Nat) (f : Nat → Nat), k ≤ len ∧ i = .int .i64 k ∧ MK w n [] 0 wr ∧ MapN wr (w.heap.size + 2) k f ∧ f = cntN (ts.take k) ∧ MapN wr (w.heap.size + 3) 0 (fun _ => 0) ∧ TreesOk n ts k) (fun i _ => len - (intOf i).toNat)
    case atStart => exact ⟨0, fun _ => 0, Nat.zero_le _, rfl, hK, hT, by funext j; simp [cntN], hW, HT0.out⟩
    case round =>
      obtain ⟨k, f, hk, rfl, hK2, hT2, hf, hW2, hto⟩ := hrel
      clear hK hT hW
      by_cases hlt : k < len
      case neg =>
        obtain rfl : k = len := by omega
        have hft : ∀ j, j < 2 ^ 64 → (0 < f j ↔ j ∈ ts) := fun j _ => by
          rw [hf]
          unfold cntN
          rw [List.take_of_length_le (by rw [hlen.out]; exact Nat.le_refl _)]
          by_cases e : j ∈ ts <;> simp [e]
        have hTO : TreesOk n ts ts.length := by rw [hlen.out]; exact hto
        have HTO := Lib.hid hTO
        have HFT := Lib.hid hft
        clear hlt hf hto hTO
        go_upto_block 2 with fail
        refine Code.wp_mono ?_ (made2 n ts a cap k w _ k f HN.out HTS.out hlen hl2 hc0 hft ⟨Nat.zero_le _, by simp, by simp, hK2, hT2, 0, _, hW2, by simp, Between.start n ts⟩ _ _ _ _ _ _ _ _ _ _ _ _ _ _ _ _ _ _ _ _ _ _ _ _ _ _ _ _ _ _ _ _ _ _ _ _ _ _ _ _ _ _ _ _ _ _ _ _ _ _ _ _ _ _ _ _ _ _ _ _ _ _ _ _ _ _ _ _ _ _ _ _ _ _ _ _ _ _ _ _ _ _ _ _ _ _ _ _ _ _ _)
        clear hK2 hT2 hW2 hft hc0
        rintro (_ | _ | _ | _ | _ | _) a' W' h
        case normal =>
          obtain ⟨u14, u15, u62, u63, u64, u65, u66, u67, u68, u69, u70, u71, u72, u73, u74, u75, u76, u77, u78, u79, u80, u81, u82, u83, u84, u85, u86, u87, u88, u89, u90, u91, u92, u93, u94, u95, u96, ds, ⟨-, hnd, hds, hK3, hT3, m, fw, hW3, hm3, hb3⟩, rfl⟩ := h
          obtain ⟨y4, z4⟩ := hK3.c4.one
          obtain ⟨y5, z5⟩ := hK3.c5.one
          obtain ⟨y6, -⟩ := hK3.px.one
          have hlow := hK3.low
          go_wp2_with fail
          have hfine : Fine n ts := ⟨HOK.out, HTO.out, by have := hb3.fine; rw [← hlen.out] at this; exact this⟩
          have hsz := hK3.size
          refine leave_marks (fun W => W.cell? ⟨w.heap.size, 0, none⟩ = some (.pointer (some ⟨w.heap.size + 4, 0, none⟩)) ∧ W.cell? ⟨w.heap.size + 1, 0, none⟩ = some (.int .i64 0) ∧ PlanAt w n ts (w.heap.size + 4) (w.heap.size + 2) (w.heap.size + 3) k m f fw W)
            (fun W hW => ⟨.tuple #[.pointer (some ⟨w.heap.size + 4, 0, none⟩), .int .i64 0], by simp [results, Try.results46, go_sem, hW.1, hW.2.1], .inr ⟨hfine, _, _, _, _, _, _, _, rfl, hW.2.2⟩⟩) ds hnd
            (fun W D hD hW => ⟨?_, ?_, hW.2.2.put (by have := hlow D hD; omega) (by have := hlow D hD; omega) (by have := hlow D hD; omega) (by have := hlow D hD; omega)⟩) _ ⟨?_, ?_, ?_⟩ ?_
          · have := hlow D hD
            exact (World.cell?_of_block (World.putObj_heap_other (by simp; omega))).trans hW.1
          · have := hlow D hD
            exact (World.cell?_of_block (World.putObj_heap_other (by simp; omega))).trans hW.2.1
          · exact (((hK3.c4.set 0 _).other (by simp) _).one).1
          · exact (((hK3.c5.other (by simp) _).set 0 _).one).1
          · exact ⟨by omega, by omega, by omega, by omega, (hK3.pl.other (by simp) _).other (by simp) _, (hT3.set (by simp)).set (by simp), (hW3.set (by simp)).set (by simp), HFT.out, by rw [hlen.out]; exact hb3.on, by rw [hlen.out]; exact Nat.le_refl _, by rw [hlen.out]; exact hm3, (hK3.below.setCell (by simp) _).setCell (by simp) _⟩
          · intro D hD
            have := hlow D hD
            exact ((Below.heap_setCell _ _ _ D (by simp; omega)).trans (Below.heap_setCell _ _ _ D (by simp; omega))).trans (hK3.dfr D hD)
        case ret =>
          obtain ⟨u14, u15, u62, u63, u64, u65, u66, u67, u68, u69, u70, u71, u72, u73, u74, u75, u76, u77, u78, u79, u80, u81, u82, u83, u84, u85, u86, u87, u88, u89, u90, u91, u92, u93, u94, u95, u96, ds, ⟨hnd, hK3, hno⟩, rfl⟩ := h
          have hlow := hK3.low
          refine leave_marks (fun W => W.cell? ⟨w.heap.size, 0, none⟩ = some (.pointer none) ∧ W.cell? ⟨w.heap.size + 1, 0, none⟩ = some (.int .i64 2) ∧ Below w.heap.size w W)
            (fun W hW => ⟨.tuple #[.pointer none, .int .i64 2], by simp [results, Try.results46, go_sem, hW.1, hW.2.1], .inl ⟨fun h => hno h.2.2, rfl, hW.2.2⟩⟩) ds hnd
            (fun W D hD hW => ⟨?_, ?_, below_put hW.2.2 (by have := hlow D hD; omega)⟩) _ ⟨hK3.c4.one.1, hK3.c5.one.1, hK3.below⟩ hK3.dfr
          · have := hlow D hD
            exact (World.cell?_of_block (World.putObj_heap_other (by simp; omega))).trans hW.1
          · have := hlow D hD
            exact (World.cell?_of_block (World.putObj_heap_other (by simp; omega))).trans hW.2.1
        all_goals exact h.elim
      case pos =>
        have hkl : k < ts.length := by rw [hlen.out]; exact hlt
        obtain ⟨t, ht⟩ : ∃ t, ts[k]? = some t := ⟨_, List.getElem?_eq_getElem hkl⟩
        have ht64 : t < 2 ^ 64 := HTS.out t (List.mem_of_getElem? ht)
        obtain ⟨g, off, rfl, hc⟩ := HCELL.out k t ht
        have hct := hc wr hK2.below
        unfold uv at hct
        have cT := fun w => Tree_any n t w HN.out ht64
        have hcase : (treeOk n t = false) ∨ (treeOk n t = true ∧ t ∈ ts.take k) ∨ (treeOk n t = true ∧ t ∉ ts.take k) := by
          by_cases e : t ∈ ts.take k <;> cases treeOk n t <;> simp [e]
        have HF := Lib.hid hf
        have HTO := Lib.hid hto
        have HT := Lib.hid ht
        have H64 := Lib.hid ht64
        clear hc hf hto ht ht64 hkl hc0
        rcases hcase with htr | ⟨htr, hmem⟩ | ⟨htr, hmem⟩
        · rw [htr] at cT
          have HTR := Lib.hid htr
          clear htr
          go_wp2_with ((with_reducible refine (cT _).mono ?_); rintro e W1 ⟨rfl, hb1⟩; have hK3 := hK2.step hb1; obtain ⟨y4, z4⟩ := hK3.c4.one; obtain ⟨y5, z5⟩ := hK3.c5.one)
          obtain ⟨a4, -⟩ := hK3.refuse.c4.one
          obtain ⟨a5, -⟩ := hK3.refuse.c5.one
          exact ⟨.tuple #[.pointer none, .int .i64 2], by simp [results, Try.results46, go_sem, a4, a5], .inl ⟨fun h => TreesOk.fall HT.out (.inl HTR.out) h.2.1, rfl, hK3.refuse.below⟩⟩
        · rw [htr] at cT
          have hq : f t = 1 := by rw [HF.out]; unfold cntN; rw [if_pos hmem]
          have HTR := Lib.hid htr
          have HMEM := Lib.hid hmem
          clear htr hmem
          go_wp2_with ((with_reducible refine (cT _).mono ?_); rintro e W1 ⟨rfl, hb1⟩; have hK3 := hK2.step hb1; have hl0 := (hT2.below hb1 hT2.lt).run_look t H64.out; rw [hq] at hl0; have hl1 : (Instr.lookup 98 (.map (some (w.heap.size + 2))) (.int .u64 (t : Nat)) false).run Try.prog W1 = .ok (.int .i64 1) W1 := hl0; clear hl0; obtain ⟨y4, z4⟩ := hK3.c4.one; obtain ⟨y5, z5⟩ := hK3.c5.one; obtain ⟨p5, -⟩ := hK3.px.one; obtain ⟨p0, p1, p2, p3⟩ := hK3.pl.fourC)
          obtain ⟨a4, -⟩ := hK3.refuse.c4.one
          obtain ⟨a5, -⟩ := hK3.refuse.c5.one
          exact ⟨.tuple #[.pointer none, .int .i64 2], by simp [results, Try.results46, go_sem, a4, a5], .inl ⟨fun h => TreesOk.fall HT.out (.inr HMEM.out) h.2.1, rfl, hK3.refuse.below⟩⟩
        · rw [htr] at cT
          have hq : f t = 0 := by rw [HF.out]; unfold cntN; rw [if_neg hmem]
          have HTR := Lib.hid htr
          have HMEM := Lib.hid hmem
          clear htr hmem
          go_wp2_with (first
            | (at_mapUpdate; refine MapN.store hT3 t 1 H64.out (by decide) (by omega) (by omega) rfl _ _ _ rfl rfl rfl rfl ?_; intro w1 hM1 hg1)
            | ((with_reducible refine (cT _).mono ?_); rintro e W1 ⟨rfl, hb1⟩; have hK3 := hK2.step hb1; have hT3 : MapN W1 (w.heap.size + 2) k f := hT2.below hb1 hT2.lt; have hl0 := hT3.run_look t H64.out; rw [hq] at hl0; have hl1 : (Instr.lookup 98 (.map (some (w.heap.size + 2))) (.int .u64 (t : Nat)) false).run Try.prog W1 = .ok (.int .i64 0) W1 := hl0; clear hl0; obtain ⟨p5, -⟩ := hK3.px.one; obtain ⟨p0, p1, p2, p3⟩ := hK3.pl.fourC))
          go_roundw
          case rel => exact ⟨k + 1, _, by omega, by go_num, hK3.grown hg1 (.inl rfl), hM1, by rw [take_snoc HT.out, HF.out]; exact cntN_snoc _ _ HMEM.out, (hW2.below hb1 hW2.lt).grown hg1 (by simp), HTO.out.snoc HT.out HTR.out HMEM.out⟩
          case measure => simp [intOf]; omega
end Go.Proofs.Ytcfpgcejahfdfab

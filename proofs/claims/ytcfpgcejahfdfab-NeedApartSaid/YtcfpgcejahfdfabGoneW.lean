/- need's gone, asked, Gone. -/
import Derived.Test.YtcfpgcejahfdfabEmptyW
namespace Go.Proofs.Ytcfpgcejahfdfab
open Go.RowKit Go.Maps Go.Shelf
attribute [local go_sem] Oper.semAt_some
set_option linter.unusedVariables false
set_option linter.unusedSimpArgs false

/-- Between two rounds of gone's range. -/
structure GoI (w : World) (n : Nat) (ts : List Nat) (bp bt bw m1 m : Nat) (ft fw : Nat → Nat) (pre : List Nat) (W : World) : Prop where
  bx : Blk W w.heap.size #[.pointer (some ⟨bp, 0, none⟩)] 94
  rs : Blk W (w.heap.size + 1) #[.bool false] 4
  pl : PlanIn n ts bp bt bw m1 m ft fw W
  no : ∀ a ∈ pre, a ∉ ts
  below : Below w.heap.size w W
  size : w.heap.size + 2 ≤ W.heap.size
structure GoX (w : World) (n : Nat) (ts : List Nat) (c : Code) (pre : List Nat) (W : World) : Prop where
  isR : c = .ret
  rs : Blk W (w.heap.size + 1) #[.bool true] 4
  yes : ∃ a ∈ pre, a ∈ ts
  below : Below w.heap.size w W
  size : w.heap.size + 2 ≤ W.heap.size

theorem PlanIn.putO {n : Nat} {ts : List Nat} {bp bt bw m1 m D : Nat} {ft fw : Nat → Nat} {W : World} {o : Obj} (h : PlanIn n ts bp bt bw m1 m ft fw W) (h1 : ¬ bp = D) (h2 : ¬ bt = D) (h3 : ¬ bw = D) : PlanIn n ts bp bt bw m1 m ft fw (W.putObj D o) :=
  ⟨h.pl.put h1, h.tg.putO h2, h.ways.putO h3, h.onT, h.onW⟩

set_option maxRecDepth 100000 in
set_option maxHeartbeats 2000000 in
theorem gone_any (n : Nat) (hn : n < 2 ^ 64) (ts : List Nat) (bp bt bw m1 m : Nat) (ft fw : Nat → Nat) (p : Nat) (w : World) (hP : PlanIn n ts bp bt bw m1 m ft fw w) (hp : p < 2 ^ 64) :
    Calls Try.prog 54 #[.pointer (some ⟨bp, 0, none⟩), .int .u64 (p : Nat)] w fun e w' => e = .returned (.bool (goneB n ts p)) ∧ Below w.heap.size w w' := by
  refine (callsIn_wide (n := 3)).1 (callsIn_of_wp_marks Try.func54 rfl trivial (wpIn_wide.2 ?_))
  simp only [Try.ntmps54, List.size_toArray, List.length_cons, List.length_nil, Nat.reduceAdd, Nat.reduceSub, Array.replicate_succ, Array.replicate_zero, List.push_toArray, List.append_toArray, List.nil_append, List.cons_append]
  obtain ⟨p0, p1, p2, p3⟩ := hP.pl.fourC
  have lbp := hP.pl.lt
  have cU := fun w => needUp_any n p w hn hp
  have cE := fun w hP => emptied_any n hn ts bp bt bw m1 m ft fw (rowN p (rowsN n)) p w hP hp rfl
  have cE' : ∀ w, PlanIn n ts bp bt bw m1 m ft fw w → Calls Try.prog 58 #[.pointer (some ⟨bp, 0, none⟩), .int .u64 (p : Nat)] w fun e w' => e = .returned (.bool (emptyB n ts p)) ∧ w = w' := cE
  have HN := Lib.hid hn
  have HP := Lib.hid hp
  have HPL := Lib.hid hP
  clear cE hn hp hP
  go_wp2_with ((with_reducible refine (cU _).mono ?_); rintro e W1 ⟨bs, v, rfl, hbs0, hbs1, hbc, hsl, hvo, hb1⟩; clear cU)
  have hh1 := Lib.hid hb1
  have k0 : Blk W1 w.heap.size #[.pointer (some ⟨bp, 0, none⟩)] 94 := by (repeat (first | with_reducible assumption | ((with_reducible apply Blk.new'); (focus (first | (simp; done) | omega | (simp; omega))); (exact rfl)) | with_reducible apply Blk.alloc' | with_reducible apply Blk.drew' | with_reducible apply Blk.drewN' | with_reducible apply Blk.set_of | ((with_reducible apply Blk.other'); (focus (first | (simp; done) | omega | (simp; omega)))) | ((with_reducible apply Blk.below'); (focus (with_reducible assumption))) | exact rfl))
  have k1 : Blk W1 (w.heap.size + 1) #[.bool false] 4 := by (repeat (first | with_reducible assumption | ((with_reducible apply Blk.new'); (focus (first | (simp; done) | omega | (simp; omega))); (exact rfl)) | with_reducible apply Blk.alloc' | with_reducible apply Blk.drew' | with_reducible apply Blk.drewN' | with_reducible apply Blk.set_of | ((with_reducible apply Blk.other'); (focus (first | (simp; done) | omega | (simp; omega)))) | ((with_reducible apply Blk.below'); (focus (with_reducible assumption))) | exact rfl))
  have hP1 : PlanIn n ts bp bt bw m1 m ft fw W1 := (HPL.out.step ((Below.refl _ _).alloc (Nat.le_refl _) _)).step ((Below.refl _ _).alloc (Nat.le_refl _) _) |>.step hb1
  have hB1 : Below w.heap.size w W1 := by (repeat (first | with_reducible assumption | with_reducible exact Below.refl _ _ | ((with_reducible apply bl_set); (focus (first | (simp; done) | (simp; omega) | omega))) | with_reducible apply bl_alloc | with_reducible apply bl_drew | with_reducible apply bl_drewN | ((with_reducible apply bl_step'); (focus (with_reducible assumption)))))
  have hs1 := hb1.size
  simp at hs1 hbs0
  have hvo' : ∀ g, v.ownBlock = some g → w.heap.size + 2 ≤ g := fun g hg => by have := hvo g hg; simpa using this
  refine range_law (encs := fun x : Nat => #[.int .u64 (x : Int)]) (own := fun _ => False) (rd := fun b => b = bs ∨ v.ownBlock = some b) (xs := wayN n p) rfl values_enters (fun _ h => h.elim)
    (by rintro b (rfl | h); exact hbs1; exact hsl.own_lt _ h) (values_iter v (wayN n p) bs W1 hbs1 hbc hsl) (fun _ => rfl) (GoI w n ts bp bt bw m1 m ft fw) (GoX w n ts)
    (fun s A C h hk => ⟨hk.block h.bx rfl id, hk.block h.rs rfl id, h.pl.keeps hk, h.no, hk.below h.below (by have := h.size; omega) (by omega) (fun _ h => h.elim), Nat.le_trans h.size hk.size⟩)
    (fun c s A C h hk => ⟨h.isR, hk.block h.rs rfl id, h.yes, hk.below h.below (by have := h.size; omega) (by omega) (fun _ h => h.elim), Nat.le_trans h.size hk.size⟩)
    ⟨k0, k1, hP1, by simp, hB1, by omega⟩ ?round ?done ?stop
  case round =>
    intro l pre x W2 hl2 hpre hI2
    gi_wp2
    refine ⟨trivial, ?_⟩
    clear hI2 W2 hl2
    intro W2 _ hI2
    obtain ⟨g0, g1, hP2, hno, hB2, hs2⟩ := hI2
    have hxw : x ∈ wayN n p := hpre.subset (by simp)
    have hx64 : x < 2 ^ 64 := way_mem_lt n p HP.out x hxw
    obtain ⟨q0, -⟩ := g0.one
    obtain ⟨y1, z1⟩ := g1.one
    obtain ⟨r0, r1, r2, r3⟩ := hP2.pl.fourC
    have hl1 := hP2.tg.run_look x hx64
    have HO := Lib.hid hno
    have HX := Lib.hid hx64
    clear hpre hxw hno hx64 p0 p1 p2 p3
    by_cases hm : x ∈ ts
    · have hq := (hP2.onT x HX.out).2 hm
      obtain ⟨q, hq1, hq2⟩ := look_pos hq
      rw [hq1] at hl1
      clear hq1 hq
      gi_wp2
      exact ⟨Round.setCell _ _ _ ⟨w.heap.size + 1, 0, none⟩ _ (by rintro (e | e); · simp at e; omega
                                                                  · have := hvo' _ e; simp at this), rfl, g1.set 0 _, ⟨x, by simp, hm⟩, hB2.setCell (by simp) _, by simpa [World.setCell] using hs2⟩
    · have hq : ft x = 0 := by have := mt (hP2.onT x HX.out).1 hm; omega
      rw [hq] at hl1
      have hl1' : (Instr.lookup 98 (.map (some bt)) (.int .u64 (x : Nat)) false).run Try.prog W2 = .ok (.int .i64 0) W2 := hl1
      clear hl1 hq
      gi_wp2
      exact ⟨Round.refl _ _ _, g0, g1, hP2, fun a ha => by
        rcases List.mem_append.1 ha with h | h
        · exact HO.out a h
        · simp at h; rw [h]; exact hm, hB2, hs2⟩
  case done =>
    intro D W2 hD hI2 hKD
    obtain ⟨g0, g1, hP2, hno, hB2, hs2⟩ := hI2
    obtain ⟨q0, -⟩ := g0.one
    obtain ⟨y1, z1⟩ := g1.one
    have hfin : goneB n ts p = emptyB n ts p := by
      unfold goneB
      rw [show (wayN n p).any (fun a => ts.contains a) = false by
        rw [List.any_eq_false]; intro a ha; simpa using hno a ha]
      rfl
    have HF := Lib.hid hfin
    generalize emptyB n ts p = b at cE' HF
    clear hfin hno p0 p1 p2 p3
    go_wp2_with ((with_reducible refine (cE' _ hP2).mono ?_); rintro e w' ⟨rfl, rfl⟩)
    refine ⟨by simp, .inl ⟨_, _, rfl, run_takeDeferred ((KeepsOthers.setCell W2 ⟨w.heap.size + 1, 0, none⟩ (.bool b)).same D _ hKD rfl), ?_⟩⟩
    have hbx : Blk ((W2.setCell ⟨w.heap.size + 1, 0, none⟩ (.bool b)).putObj D (.deferred none)) (w.heap.size + 1) #[.bool b] 4 := (g1.set 0 _).put (by omega)
    obtain ⟨y2, -⟩ := hbx.one
    refine ⟨.bool b, by simp [results, Try.results54, go_sem, y2], by rw [HF.out], below_put (hB2.setCell (by simp) _) (by omega)⟩
  case stop =>
    intro D c pre W2 hD hpre hX hKD
    obtain ⟨rfl, g1, ⟨a, ha, hm⟩, hB2, hs2⟩ := hX
    have hfin : goneB n ts p = true := by
      unfold goneB
      rw [show (wayN n p).any (fun a => ts.contains a) = true by
        rw [List.any_eq_true]; exact ⟨a, hpre.subset ha, by simpa using hm⟩]
      rfl
    have HF := Lib.hid hfin
    clear hfin
    go_wp2_with fail
    refine ⟨by simp, .inl ⟨_, _, rfl, run_takeDeferred hKD, ?_⟩⟩
    have hbx : Blk (W2.putObj D (.deferred none)) (w.heap.size + 1) #[.bool true] 4 := g1.put (by omega)
    obtain ⟨y2, -⟩ := hbx.one
    refine ⟨.bool true, by simp [results, Try.results54, go_sem, y2], by rw [HF.out], below_put hB2 (by omega)⟩

/-- What asked tells. -/
def AskedAt (n : Nat) (ts : List Nat) (p : Nat) (w : World) (e : Ending) (W : World) : Prop :=
  (¬ (Fine n ts ∧ treeOk n p = true) ∧ e = .returned (.tuple #[.pointer none, .int .i64 2]) ∧ Below w.heap.size w W) ∨
  (Fine n ts ∧ treeOk n p = true ∧ ∃ bp bt bw m1 m ft fw, e = .returned (.tuple #[.pointer (some ⟨bp, 0, none⟩), .int .i64 0]) ∧ PlanIn n ts bp bt bw m1 m ft fw W ∧ w.heap.size ≤ bp ∧ w.heap.size ≤ bt ∧ w.heap.size ≤ bw ∧ Below w.heap.size w W)

set_option maxRecDepth 100000 in
set_option maxHeartbeats 2000000 in
theorem asked_any (n : Nat) (ts : List Nat) (p : Nat) (v : Value) (w : World) (hn : n < 2 ^ 64) (hts : ∀ t ∈ ts, t < 2 ^ 64) (hl : ts.length ≤ 1125899906842624) (hp : p < 2 ^ 64) (hv : ArgAt w v ts) :
    Calls Try.prog 53 #[.int .u64 (n : Nat), v, .int .u64 (p : Nat)] w (AskedAt n ts p w) := by
  obtain ⟨a, len, cap, rfl, -, -⟩ := hv.open
  have cM := made_any n ts _ w hn hts hl hv
  have cT := fun w => Tree_any n p w hn hp
  clear hn hts hl hp hv
  by_cases hF : Fine n ts
  · have cM' : Calls Try.prog 46 #[.int .u64 (n : Nat), .slice a len cap] w fun e W => ∃ bp bt bw m1 m ft fw, e = .returned (.tuple #[.pointer (some ⟨bp, 0, none⟩), .int .i64 0]) ∧ PlanAt w n ts bp bt bw m1 m ft fw W :=
      cM.mono fun e W h => by
        rcases h with ⟨h, _⟩ | ⟨_, h⟩
        · exact absurd hF h
        · exact h
    clear cM
    cases ht : treeOk n p
    all_goals
      rw [ht] at cT
      have HT := Lib.hid ht
      clear ht
      go_enter Try.func53, Try.ntmps53
      go_wp2_with (first
        | ((with_reducible refine cM'.mono ?_); rintro e W1 ⟨bp, bt, bw, m1, m, ft, fw, rfl, hP⟩; clear cM')
        | ((with_reducible refine (cT _).mono ?_); rintro e W2 ⟨rfl, hb2⟩))
      go_ret2
    · exact .inl ⟨fun h => by rw [HT.out] at h; exact absurd h.2 (by decide), rfl, bl_step hP.below hb2⟩
    · exact .inr ⟨hF, HT.out, bp, bt, bw, m1, m, ft, fw, rfl, hP.inn.step hb2, hP.lp, hP.lt, hP.lw, bl_step hP.below hb2⟩
  · have cM' : Calls Try.prog 46 #[.int .u64 (n : Nat), .slice a len cap] w fun e W => e = .returned (.tuple #[.pointer none, .int .i64 2]) ∧ Below w.heap.size w W :=
      cM.mono fun e W h => by
        rcases h with ⟨_, h⟩ | ⟨h, _⟩
        · exact h
        · exact absurd h hF
    clear cM
    go_enter Try.func53, Try.ntmps53
    go_wp2_with ((with_reducible refine cM'.mono ?_); rintro e W1 ⟨rfl, hB⟩; clear cM')
    go_ret2
    exact .inl ⟨fun h => hF h.1, rfl, hB⟩

/-- What Gone tells. -/
def GoneAt (n : Nat) (ts : List Nat) (p : Nat) (w : World) (e : Ending) (W : World) : Prop :=
  ((¬ (Fine n ts ∧ treeOk n p = true) ∧ e = .returned (.tuple #[.bool false, .int .i64 2])) ∨ (Fine n ts ∧ treeOk n p = true ∧ e = .returned (.tuple #[.bool (goneB n ts p), .int .i64 0]))) ∧ Below w.heap.size w W

set_option maxRecDepth 100000 in
set_option maxHeartbeats 2000000 in
theorem Gone_any (n : Nat) (ts : List Nat) (p : Nat) (v : Value) (w : World) (hn : n < 2 ^ 64) (hts : ∀ t ∈ ts, t < 2 ^ 64) (hl : ts.length ≤ 1125899906842624) (hp : p < 2 ^ 64) (hv : ArgAt w v ts) :
    Calls Try.prog 20 #[.int .u64 (n : Nat), v, .int .u64 (p : Nat)] w (GoneAt n ts p w) := by
  obtain ⟨a, len, cap, rfl, -, -⟩ := hv.open
  have cA := asked_any n ts p _ w hn hts hl hp hv
  have cG := fun bp bt bw m1 m ft fw w hP => gone_any n hn ts bp bt bw m1 m ft fw p w hP hp
  clear hn hts hl hp hv
  by_cases hF : Fine n ts ∧ treeOk n p = true
  · have cA' : Calls Try.prog 53 #[.int .u64 (n : Nat), .slice a len cap, .int .u64 (p : Nat)] w fun e W => ∃ bp bt bw m1 m ft fw, e = .returned (.tuple #[.pointer (some ⟨bp, 0, none⟩), .int .i64 0]) ∧ PlanIn n ts bp bt bw m1 m ft fw W ∧ Below w.heap.size w W :=
      cA.mono fun e W h => by
        rcases h with ⟨h, _⟩ | ⟨_, _, bp, bt, bw, m1, m, ft, fw, h1, h2, _, _, _, h3⟩
        · exact absurd hF h
        · exact ⟨bp, bt, bw, m1, m, ft, fw, h1, h2, h3⟩
    clear cA
    go_enter Try.func20, Try.ntmps20
    go_wp2_with (first
      | ((with_reducible refine cA'.mono ?_); rintro e W1 ⟨bp, bt, bw, m1, m, ft, fw, rfl, hP, hB⟩; clear cA')
      | ((with_reducible refine (cG _ bt bw m1 m ft fw _ hP).mono ?_); rintro e W2 ⟨rfl, hb2⟩))
    go_ret2
    exact ⟨.inr ⟨hF.1, hF.2, rfl⟩, bl_step hB hb2⟩
  · have cA' : Calls Try.prog 53 #[.int .u64 (n : Nat), .slice a len cap, .int .u64 (p : Nat)] w fun e W => e = .returned (.tuple #[.pointer none, .int .i64 2]) ∧ Below w.heap.size w W :=
      cA.mono fun e W h => by
        rcases h with ⟨_, h⟩ | ⟨h1, h2, _⟩
        · exact h
        · exact absurd ⟨h1, h2⟩ hF
    clear cA
    go_enter Try.func20, Try.ntmps20
    go_wp2_with ((with_reducible refine cA'.mono ?_); rintro e W1 ⟨rfl, hB⟩; clear cA')
    go_ret2
    exact ⟨.inl ⟨hF, rfl⟩, hB⟩
end Go.Proofs.Ytcfpgcejahfdfab

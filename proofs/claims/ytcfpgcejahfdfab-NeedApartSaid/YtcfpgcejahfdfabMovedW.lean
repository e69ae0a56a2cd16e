/- need.Moved. -/
import Derived.Test.YtcfpgcejahfdfabGoneW
import Derived.Test.YtcfpgcejahfdfabBack
import Derived.Stop.RegionWithIn
namespace Go.Proofs.Ytcfpgcejahfdfab
open Go.RowKit Go.Maps Go.Shelf
attribute [local go_sem] Oper.semAt_some
set_option linter.unusedVariables false
set_option linter.unusedSimpArgs false

/-- One step down, from a node's place: past what is emptied nothing turns. -/
def moveStep (n : Nat) (ts : List Nat) (place next : Nat) : Nat := if emptyB n ts (sibN next (rowsN n)) then place else (leftN place (rowsN n) + next % 2) % 2 ^ 64
/-- Where a node stands then. -/
def movedN (n : Nat) (ts : List Nat) (p : Nat) : Nat := ((wayN n p).dropLast.reverse).foldl (moveStep n ts) ((wayN n p).getLastD 0)

theorem moveStep_lt (n : Nat) (ts : List Nat) (place next : Nat) (h : place < 2 ^ 64) : moveStep n ts place next < 2 ^ 64 := by
  unfold moveStep; split
  · exact h
  · exact Nat.mod_lt _ (by decide)
theorem move_lt (n : Nat) (ts : List Nat) : ∀ (l : List Nat) (place : Nat), place < 2 ^ 64 → l.foldl (moveStep n ts) place < 2 ^ 64
  | [], _, h => h
  | x :: l, _, h => move_lt n ts l _ (moveStep_lt n ts _ x h)

theorem isLeft_any (p : Nat) (w : World) (hp : p < 2 ^ 64) : Calls Try.prog 59 #[.int .u64 (p : Nat)] w fun e w' => e = .returned (.bool (p % 2 == 0)) ∧ w = w' := by
  have hb := and_one p hp
  obtain ⟨q, hq⟩ : ∃ q, p % 2 = q := ⟨_, rfl⟩
  rw [hq] at hb ⊢
  clear hp hq
  go_enter Try.func59, Try.ntmps59
  go_wp2
  go_ret
  refine ⟨ret1 (bval ?_), rfl⟩
  cases q with
  | zero => rfl
  | succ k => simp; omega

theorem sibN_lt (p R : Nat) (hR : R ≤ 63) : sibN p R < 2 ^ 64 := by
  unfold sibN
  split
  · next h =>
    have hp : p + 1 < 2 ^ (R + 1) := by
      unfold parentOk isPos at h
      simp only [Bool.and_eq_true, decide_eq_true_eq] at h
      exact h.1
    have := pow64 R hR
    split <;> omega
  · decide
theorem leftN_lt (p R : Nat) (hR : R ≤ 63) : leftN p R < 2 ^ 64 := by
  unfold leftN
  split
  · exact Nat.lt_of_lt_of_le (Nat.mod_lt _ (Nat.two_pow_pos _)) (pow64 R hR)
  · decide

theorem ownsRow_more {W : World} {base : Nat} {e : TypeId} {size : Nat} {v : Value} {k : Nat} {xs : List Value} (h : W.ownsRow base e size v (k + 1) xs) : ∃ g cap, v = .slice (some ⟨g, 0, none⟩) (k + 1) cap ∧ k + 1 ≤ cap ∧ base ≤ g ∧ g < W.heap.size := by
  rcases h.2 with ⟨_, h0⟩ | ⟨g, cap, cur, rfl, hb, hh, hc, _⟩
  · omega
  · exact ⟨g, cap, rfl, hc, hb, (Array.getElem?_eq_some_iff.1 hh).1⟩

/-- Between two rounds of Moved's range. -/
structure MvI (w : World) (n : Nat) (ts : List Nat) (b9 b12 bp bt bw m1 m : Nat) (ft fw : Nat → Nat) (top : Nat) (pre : List (Nat × Nat)) (W : World) : Prop where
  bx : Blk W b9 #[.pointer (some ⟨bp, 0, none⟩)] 94
  pc : Blk W b12 #[.int .u64 (((pre.map (·.2)).foldl (moveStep n ts) top : Nat) : Int)] 22
  pl : PlanIn n ts bp bt bw m1 m ft fw W
  below : Below w.heap.size w W
  size : w.heap.size ≤ W.heap.size

/-- What Moved tells. -/
def MovedAt (n : Nat) (ts : List Nat) (p : Nat) (w : World) (e : Ending) (W : World) : Prop :=
  ((¬ (Fine n ts ∧ treeOk n p = true) ∧ e = .returned (.tuple #[.int .u64 0, .bool false, .int .i64 2])) ∨
   (Fine n ts ∧ treeOk n p = true ∧ goneB n ts p = true ∧ e = .returned (.tuple #[.int .u64 0, .bool false, .int .i64 0])) ∨
   (Fine n ts ∧ treeOk n p = true ∧ goneB n ts p = false ∧ e = .returned (.tuple #[.int .u64 (movedN n ts p : Nat), .bool true, .int .i64 0]))) ∧ Below w.heap.size w W

set_option maxRecDepth 100000 in
set_option maxHeartbeats 4000000 in
theorem Moved_any (n : Nat) (ts : List Nat) (p : Nat) (v : Value) (w : World) (hn : n < 2 ^ 64) (hts : ∀ t ∈ ts, t < 2 ^ 64) (hl : ts.length ≤ 1125899906842624) (hp : p < 2 ^ 64) (hv : ArgAt w v ts) :
    Calls Try.prog 22 #[.int .u64 (n : Nat), v, .int .u64 (p : Nat)] w (MovedAt n ts p w) := by
  obtain ⟨a, len, cap, rfl, -, -⟩ := hv.open
  have cA := asked_any n ts p _ w hn hts hl hp hv
  have cG := fun bp bt bw m1 m ft fw w hP => gone_any n hn ts bp bt bw m1 m ft fw p w hP hp
  have cW := fun w => Way_any n p w hn hp
  have hR := rowsN_le n
  have HN := Lib.hid hn
  have HP := Lib.hid hp
  clear hn hts hl hp hv
  refine (callsIn_wide (n := 3)).1 (callsIn_of_wp_marks Try.func22 rfl trivial (wpIn_wide.2 ?_))
  simp only [Try.ntmps22, List.size_toArray, List.length_cons, List.length_nil, Nat.reduceAdd, Nat.reduceSub, Array.replicate_succ, Array.replicate_zero, List.push_toArray, List.append_toArray, List.nil_append, List.cons_append]
  by_cases hF : Fine n ts ∧ treeOk n p = true
  case neg =>
    have cA' : Calls Try.prog 53 #[.int .u64 (n : Nat), .slice a len cap, .int .u64 (p : Nat)] w fun e W => e = .returned (.tuple #[.pointer none, .int .i64 2]) ∧ Below w.heap.size w W :=
      cA.mono fun e W h => by
        rcases h with ⟨_, h⟩ | ⟨h1, h2, _⟩
        · exact h
        · exact absurd ⟨h1, h2⟩ hF
    clear cA
    go_wp2_with ((with_reducible refine cA'.mono ?_); rintro e W1 ⟨rfl, hB⟩; clear cA')
    exact ⟨.tuple #[.int .u64 0, .bool false, .int .i64 2], by simp [results, Try.results22, go_sem], .inl ⟨hF, rfl⟩, bl_alloc hB⟩
  case pos =>
    have cA' : Calls Try.prog 53 #[.int .u64 (n : Nat), .slice a len cap, .int .u64 (p : Nat)] w fun e W => ∃ bp bt bw m1 m ft fw, e = .returned (.tuple #[.pointer (some ⟨bp, 0, none⟩), .int .i64 0]) ∧ PlanIn n ts bp bt bw m1 m ft fw W ∧ Below w.heap.size w W :=
      cA.mono fun e W h => by
        rcases h with ⟨h, _⟩ | ⟨_, _, bp, bt, bw, m1, m, ft, fw, h1, h2, _, _, _, h3⟩
        · exact absurd hF h
        · exact ⟨bp, bt, bw, m1, m, ft, fw, h1, h2, h3⟩
    clear cA
    cases hg : goneB n ts p with
    | true =>
      rw [hg] at cG
      have HG := Lib.hid hg
      clear hg
      go_wp2_with (first
        | ((with_reducible refine cA'.mono ?_); rintro e W1 ⟨bp, bt, bw, m1, m, ft, fw, rfl, hP, hB⟩; clear cA'; have hP' := hP.step ((Below.refl _ _).alloc (Nat.le_refl _) (.cells #[.pointer (some ⟨bp, 0, none⟩)] 94)))
        | ((with_reducible refine (cG _ bt bw m1 m ft fw _ hP').mono ?_); rintro e W2 ⟨rfl, hb2⟩))
      exact ⟨.tuple #[.int .u64 0, .bool false, .int .i64 0], by simp [results, Try.results22, go_sem], .inr (.inl ⟨hF.1, hF.2, HG.out, rfl⟩), bl_step (bl_alloc hB) hb2⟩
    | false =>
      rw [hg] at cG
      have HG := Lib.hid hg
      clear hg
      have hne := (tree_way n p).1 hF.2
      obtain ⟨ln, hln⟩ : ∃ ln, (wayN n p).length = ln + 1 := ⟨(wayN n p).length - 1, by have := List.length_pos_iff.2 hne; omega⟩
      have hl65 := wayN_len n p
      have hlast : (wayN n p)[ln]? = some ((wayN n p).getLastD 0) := by
        rw [List.getLastD_eq_getLast?, List.getLast?_eq_getElem?, hln]
        simp only [Nat.add_sub_cancel]
        rw [List.getElem?_eq_getElem (by omega)]; rfl
      obtain ⟨top, htop⟩ : ∃ x, (wayN n p).getLastD 0 = x := ⟨_, rfl⟩
      rw [htop] at hlast
      have htl : top < 2 ^ 64 := way_mem_lt n p HP.out top (List.mem_of_getElem? hlast)
      have hln2 : (ln : Int) ≤ 64 := by omega
      have HLN := Lib.hid hln
      have HTOP := Lib.hid htop
      have HLA := Lib.hid hlast
      have HTL := Lib.hid htl
      have HFF := Lib.hid hF
      clear hne hl65 hlast htop hln htl hF
      rw [HLN.out] at cW
      go_wp2_with (first
        | ((with_reducible refine cA'.mono ?_); rintro e W1 ⟨bp, bt, bw, m1, m, ft, fw, rfl, hP, hB⟩; clear cA'; have hP' := hP.step ((Below.refl _ _).alloc (Nat.le_refl _) (.cells #[.pointer (some ⟨bp, 0, none⟩)] 94)))
        | ((with_reducible refine (cG _ bt bw m1 m ft fw _ hP').mono ?_); rintro e W2 ⟨rfl, hb2⟩)
        | (go_at_call 49; refine (cW _).mono ?_; rintro e W3 ⟨v, rfl, hrow, hb3⟩; obtain ⟨g, gc, rfl, hgc, hgb, hgl⟩ := ownsRow_more hrow; have hct := hrow.cellAt ln (by omega); rw [List.getElem?_map, HLA.out] at hct; simp only [Option.map_some, uv] at hct; have hgc2 : ln ≤ gc := (by omega); have hgc3 : (ln : Int) ≤ (gc : Int) := (by omega))
        | ((with_reducible refine (backward_any _ _ _ _).mono ?_); rintro e W4 ⟨rfl, rfl⟩))
      have hsl : SliceAt ((W3.alloc (.cells #[.int .u64 (top : Nat)] 22)).alloc (.cells #[.slice (some ⟨g, 0, none⟩) ln gc] 23)) (.slice (some ⟨g, 0, none⟩) ln gc) (wayN n p).dropLast := by
        have hdl : (wayN n p).dropLast.length = ln := by rw [List.length_dropLast, HLN.out]; rfl
        refine .inr ⟨g, 0, gc, by rw [hdl], by simp; omega, by rw [hdl]; omega, fun j x hx => ?_⟩
        have hj := (List.getElem?_eq_some_iff.1 hx).1
        have h2 := hrow.cellAt j (by omega)
        rw [List.getElem?_map] at h2
        have h3 : (wayN n p)[j]? = some x := by
          rw [List.getElem?_dropLast] at hx
          split at hx
          · exact hx
          · cases hx
        rw [h3] at h2
        simp only [Option.map_some] at h2
        rw [World.cell?_alloc_past _ _ _ (by simp; omega), World.cell?_alloc_past _ _ _ hgl, Nat.zero_add]
        exact h2
      have k9 : Blk W3 W1.heap.size #[.pointer (some ⟨bp, 0, none⟩)] 94 := ((Blk.new W1 _ _).below hb2 (by simp)).below hb3 (by have := hb2.size; simp at this; omega)
      have hP3 : PlanIn n ts bp bt bw m1 m ft fw W3 := (hP'.step hb2).step hb3
      have hB3 : Below w.heap.size w W3 := bl_step (bl_step (bl_alloc hB) hb2) hb3
      have hs3 := hB3.size
      have hs9 := k9.lt
      have hs2 := hB.size
      have hbl := hP3.pl.lt
      have hbt := hP3.tg.lt
      have hbw := hP3.ways.lt
      refine range_law (encs := fun x : Nat × Nat => #[.int .i64 (x.1 : Int), .int .u64 (x.2 : Int)]) (own := fun _ => False) (rd := fun b => b = W3.heap.size + 1 ∨ (Value.slice (some ⟨g, 0, none⟩) ln gc).ownBlock = some b) (xs := backT (wayN n p).dropLast 0) rfl backward_enters (fun _ h => h.elim)
        (fun b h => h.elim (fun h => by subst h; simp) (fun h => hsl.own_lt _ h)) (backward_iter _ (wayN n p).dropLast (W3.heap.size + 1) _ (by simp) (by rw [World.cell?_alloc_at _ _ _ _ (by simp)]; rfl) hsl (by rw [List.length_dropLast, HLN.out]; omega)) (fun _ => rfl)
        (MvI w n ts W1.heap.size W3.heap.size bp bt bw m1 m ft fw top) (fun _ _ _ => False)
        (fun s A C h hk => ⟨hk.block h.bx rfl id, hk.block h.pc rfl id, h.pl.keeps hk, hk.below h.below h.size (by simp; omega) (fun _ h => h.elim), Nat.le_trans h.size hk.size⟩)
        (fun _ _ _ _ h _ => h)
        ⟨(k9.alloc _).alloc _, (Blk.new W3 _ _).alloc _, (hP3.step ((Below.refl _ _).alloc (Nat.le_refl _) _)).step ((Below.refl _ _).alloc (Nat.le_refl _) _), bl_alloc (bl_alloc hB3), by simp; omega⟩ ?round ?done ?stop
      case round =>
        intro l pre x W2 hl2 hpre hI2
        gi_wp2
        refine ⟨trivial, ?_⟩
        clear hI2 W2 hl2
        intro W2 _ hI2
        obtain ⟨i, nx⟩ := x
        obtain ⟨g9, g12, hP2, hB2, hs4⟩ := hI2
        have hnx : nx ∈ wayN n p := by
          have h1 : (i, nx) ∈ backT (wayN n p).dropLast 0 := hpre.subset (by simp)
          have h2 : nx ∈ (backT (wayN n p).dropLast 0).map (·.2) := List.mem_map.2 ⟨_, h1, rfl⟩
          rw [backT_snd, List.mem_reverse] at h2
          exact List.dropLast_subset _ h2
        have hn64 : nx < 2 ^ 64 := way_mem_lt n p HP.out nx hnx
        obtain ⟨q, hq⟩ : ∃ q, (pre.map (·.2)).foldl (moveStep n ts) top = q := ⟨_, rfl⟩
        have hq64 : q < 2 ^ 64 := by rw [← hq]; exact move_lt n ts _ _ HTL.out
        rw [hq] at g12
        obtain ⟨s, hs⟩ : ∃ s, sibN nx (rowsN n) = s := ⟨_, rfl⟩
        obtain ⟨y, hy⟩ : ∃ y, leftN q (rowsN n) = y := ⟨_, rfl⟩
        have hs64 : s < 2 ^ 64 := by rw [← hs]; exact sibN_lt _ _ hR
        have hy64 : y < 2 ^ 64 := by rw [← hy]; exact leftN_lt _ _ hR
        have cS := fun w => Sibling_any nx (rowsN n) w hR hn64
        have cL := fun w => Left_any q (rowsN n) w hR hq64
        have cI := fun w => isLeft_any nx w hn64
        have cE := fun w hP => emptied_any n HN.out ts bp bt bw m1 m ft fw (rowN s (rowsN n)) s w hP hs64 rfl
        obtain ⟨eb, heb⟩ : ∃ eb, emptyB n ts s = eb := ⟨_, rfl⟩
        have cE' : ∀ w, PlanIn n ts bp bt bw m1 m ft fw w → Calls Try.prog 58 #[.pointer (some ⟨bp, 0, none⟩), .int .u64 (s : Nat)] w fun e w' => e = .returned (.bool eb) ∧ w = w' := by rw [← heb]; exact cE
        rw [hs] at cS
        rw [hy] at cL
        have hst : (((pre ++ [(i, nx)]).map (·.2)).foldl (moveStep n ts) top) = if eb then q else (y + nx % 2) % 2 ^ 64 := by
          rw [List.map_append, List.foldl_append, hq]
          simp only [List.map_cons, List.map_nil, List.foldl_cons, List.foldl_nil, moveStep]
          rw [hs, heb, hy]
        obtain ⟨q9, -⟩ := g9.one
        obtain ⟨q12, f12⟩ := g12.one
        obtain ⟨r0, r1, r2, r3⟩ := hP2.pl.fourC
        have hbl2 := hP2.pl.lt
        have hbt2 := hP2.tg.lt
        have hbw2 := hP2.ways.lt
        have HST := Lib.hid hst
        have HY := Lib.hid hy64
        have HQ := Lib.hid hq64
        clear hpre hnx hn64 hq hs64 hy64 hq64 hs hy heb cE hst cG cW
        cases eb with
        | true =>
          gi_wp2_with (first
            | (refine ⟨trivial, ?_⟩; gi_at_call 44; refine (CallsIn.inRound l (callsIn_wide.2 (cS _))).mono ?_; rintro e w' ⟨rfl, rfl⟩)
            | (refine ⟨trivial, ?_⟩; gi_at_call 58; refine (CallsIn.inRound l (callsIn_wide.2 (cE' _ hP2))).mono ?_; rintro e w' ⟨rfl, rfl⟩))
          exact ⟨Round.refl _ _ _, g9, by rw [HST.out]; exact g12, hP2, hB2, hs4⟩
        | false =>
          have hrd : ∀ b, b < W3.heap.size + 1 → ¬ g = b → ¬ (b = W3.heap.size + 1 ∨ (Value.slice (some ⟨g, 0, none⟩) ln gc).ownBlock = some b) := by
            rintro b hb hg (rfl | h)
            · omega
            · exact hg (by simpa [Value.ownBlock] using h)
          have hgne : ¬ g = W3.heap.size := by omega
          have hR12 : ∀ (W : World) (v : Value), Round ((W3.alloc (.cells #[.int .u64 (top : Nat)] 22)).alloc (.cells #[.slice (some ⟨g, 0, none⟩) ln gc] 23)).heap.size (fun b => b = W3.heap.size + 1 ∨ (Value.slice (some ⟨g, 0, none⟩) ln gc).ownBlock = some b) W (W.setCell ⟨W3.heap.size, 0, none⟩ v) := fun W v =>
            Round.setCell _ _ _ _ _ (hrd _ (by simp) hgne)
          have HR12 := Lib.hid hR12
          clear hrd hR12
          have hodd : nx % 2 = 0 ∨ nx % 2 = 1 := by omega
          rcases hodd with ho | ho
          · rw [ho] at cI HST
            have HO := Lib.hid ho
            clear ho
            gi_wp2_with (first
              | (refine ⟨trivial, ?_⟩; gi_at_call 44; refine (CallsIn.inRound l (callsIn_wide.2 (cS _))).mono ?_; rintro e w' ⟨rfl, rfl⟩)
              | (refine ⟨trivial, ?_⟩; gi_at_call 58; refine (CallsIn.inRound l (callsIn_wide.2 (cE' _ hP2))).mono ?_; rintro e w' ⟨rfl, rfl⟩)
              | (refine ⟨trivial, ?_⟩; gi_at_call 59; refine (CallsIn.inRound l (callsIn_wide.2 (cI _))).mono ?_; rintro e w' ⟨rfl, rfl⟩))
            gi_region_with (refine ⟨trivial, ?_⟩; gi_at_call 40; refine (CallsIn.inRound l (callsIn_wide.2 (cL _))).mono ?_; rintro e w' ⟨rfl, rfl⟩)
            all_goals
              gi_wp2_with (first
              | (refine ⟨trivial, ?_⟩; gi_at_call 44; refine (CallsIn.inRound l (callsIn_wide.2 (cS _))).mono ?_; rintro e w' ⟨rfl, rfl⟩)
              | (refine ⟨trivial, ?_⟩; gi_at_call 58; refine (CallsIn.inRound l (callsIn_wide.2 (cE' _ hP2))).mono ?_; rintro e w' ⟨rfl, rfl⟩)
              | (refine ⟨trivial, ?_⟩; gi_at_call 59; refine (CallsIn.inRound l (callsIn_wide.2 (cI _))).mono ?_; rintro e w' ⟨rfl, rfl⟩))
              refine ⟨(Round.drew _ _ W2).trans (HR12.out _ _), ?_, ?_, (hP2.step ((Below.refl _ _).drew)).set _ _ (by simp; omega) (by simp; omega) (by simp; omega), ?_, by simp; omega⟩
              · (repeat (first | with_reducible assumption | ((with_reducible apply Blk.new'); (focus (first | (simp; done) | omega | (simp; omega))); (exact rfl)) | with_reducible apply Blk.alloc' | with_reducible apply Blk.drew' | with_reducible apply Blk.drewN' | with_reducible apply Blk.set_of | ((with_reducible apply Blk.other'); (focus (first | (simp; done) | omega | (simp; omega)))) | ((with_reducible apply Blk.below'); (focus (with_reducible assumption))) | exact rfl))
              · have e := HST.out
                simp only [Bool.false_eq_true, if_false, Nat.add_zero] at e
                rw [e, Nat.mod_eq_of_lt HY.out]
                (repeat (first | with_reducible assumption | ((with_reducible apply Blk.new'); (focus (first | (simp; done) | omega | (simp; omega))); (exact rfl)) | with_reducible apply Blk.alloc' | with_reducible apply Blk.drew' | with_reducible apply Blk.drewN' | with_reducible apply Blk.set_of | ((with_reducible apply Blk.other'); (focus (first | (simp; done) | omega | (simp; omega)))) | ((with_reducible apply Blk.below'); (focus (with_reducible assumption))) | exact rfl))
              · (repeat (first | with_reducible assumption | with_reducible exact Below.refl _ _ | ((with_reducible apply bl_set); (focus (first | (simp; done) | (simp; omega) | omega))) | with_reducible apply bl_alloc | with_reducible apply bl_drew | with_reducible apply bl_drewN | ((with_reducible apply bl_step'); (focus (with_reducible assumption)))))
          · rw [ho] at cI HST
            have HO := Lib.hid ho
            clear ho
            obtain ⟨z, hz, HZ⟩ : ∃ z : Nat, IntKind.u64.wrap ((y : Int) + 1) = (z : Int) ∧ Hid ((y + 1) % 2 ^ 64 = z) := ⟨(y + 1) % 2 ^ 64, by rw [show ((y : Int) + 1) = ((y + 1 : Nat) : Int) by omega, wrap_u64_nat], rfl⟩
            gi_wp2_with (first
              | (refine ⟨trivial, ?_⟩; gi_at_call 44; refine (CallsIn.inRound l (callsIn_wide.2 (cS _))).mono ?_; rintro e w' ⟨rfl, rfl⟩)
              | (refine ⟨trivial, ?_⟩; gi_at_call 58; refine (CallsIn.inRound l (callsIn_wide.2 (cE' _ hP2))).mono ?_; rintro e w' ⟨rfl, rfl⟩)
              | (refine ⟨trivial, ?_⟩; gi_at_call 59; refine (CallsIn.inRound l (callsIn_wide.2 (cI _))).mono ?_; rintro e w' ⟨rfl, rfl⟩))
            gi_region_with (refine ⟨trivial, ?_⟩; gi_at_call 40; refine (CallsIn.inRound l (callsIn_wide.2 (cL _))).mono ?_; rintro e w' ⟨rfl, rfl⟩)
            all_goals
              gi_wp2_with (first
              | (refine ⟨trivial, ?_⟩; gi_at_call 44; refine (CallsIn.inRound l (callsIn_wide.2 (cS _))).mono ?_; rintro e w' ⟨rfl, rfl⟩)
              | (refine ⟨trivial, ?_⟩; gi_at_call 58; refine (CallsIn.inRound l (callsIn_wide.2 (cE' _ hP2))).mono ?_; rintro e w' ⟨rfl, rfl⟩)
              | (refine ⟨trivial, ?_⟩; gi_at_call 59; refine (CallsIn.inRound l (callsIn_wide.2 (cI _))).mono ?_; rintro e w' ⟨rfl, rfl⟩))
              refine ⟨((Round.drew _ _ W2).trans (HR12.out _ _)).trans (HR12.out _ _), ?_, ?_, ((hP2.step ((Below.refl _ _).drew)).set _ _ (by simp; omega) (by simp; omega) (by simp; omega)).set _ _ (by simp; omega) (by simp; omega) (by simp; omega), ?_, by simp; omega⟩
              · (repeat (first | with_reducible assumption | ((with_reducible apply Blk.new'); (focus (first | (simp; done) | omega | (simp; omega))); (exact rfl)) | with_reducible apply Blk.alloc' | with_reducible apply Blk.drew' | with_reducible apply Blk.drewN' | with_reducible apply Blk.set_of | ((with_reducible apply Blk.other'); (focus (first | (simp; done) | omega | (simp; omega)))) | ((with_reducible apply Blk.below'); (focus (with_reducible assumption))) | exact rfl))
              · have e := HST.out
                simp only [Bool.false_eq_true, if_false] at e
                rw [e, HZ.out]
                (repeat (first | with_reducible assumption | ((with_reducible apply Blk.new'); (focus (first | (simp; done) | omega | (simp; omega))); (exact rfl)) | with_reducible apply Blk.alloc' | with_reducible apply Blk.drew' | with_reducible apply Blk.drewN' | with_reducible apply Blk.set_of | ((with_reducible apply Blk.other'); (focus (first | (simp; done) | omega | (simp; omega)))) | ((with_reducible apply Blk.below'); (focus (with_reducible assumption))) | exact rfl))
              · (repeat (first | with_reducible assumption | with_reducible exact Below.refl _ _ | ((with_reducible apply bl_set); (focus (first | (simp; done) | (simp; omega) | omega))) | with_reducible apply bl_alloc | with_reducible apply bl_drew | with_reducible apply bl_drewN | ((with_reducible apply bl_step'); (focus (with_reducible assumption)))))
      case stop => exact fun _ _ _ _ _ _ h _ => h.elim
      case done =>
        intro D W2 hD hI2 hKD
        obtain ⟨g9, g12, hP2, hB2, hs4⟩ := hI2
        have hmv : ((backT (wayN n p).dropLast 0).map (·.2)).foldl (moveStep n ts) top = movedN n ts p := by
          rw [backT_snd]; unfold movedN; rw [HTOP.out]
        rw [hmv] at g12
        obtain ⟨q12, -⟩ := g12.one
        go_wp2_with fail
        refine ⟨by simp, .inl ⟨_, _, rfl, run_takeDeferred hKD, ?_⟩⟩
        refine ⟨.tuple #[.int .u64 (movedN n ts p : Nat), .bool true, .int .i64 0], by simp [results, Try.results22, go_sem], .inr (.inr ⟨HFF.out.1, HFF.out.2, HG.out, rfl⟩), below_put hB2 (by simp at hD; omega)⟩
end Go.Proofs.Ytcfpgcejahfdfab

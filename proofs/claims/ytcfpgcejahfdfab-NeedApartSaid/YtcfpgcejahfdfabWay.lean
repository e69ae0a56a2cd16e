/- pos.up, pos.Way, pos.Tree. -/
import Derived.Test.YtcfpgcejahfdfabPosW
import Derived.Test.YtcfpgcejahfdfabRange
import Derived.RangeFuncBox
namespace Go.Proofs.Ytcfpgcejahfdfab
open Go.RowKit Go.Shelf
attribute [local go_sem] Oper.semAt_some
set_option linter.unusedVariables false
set_option linter.unusedSimpArgs false

set_option maxHeartbeats 400000 in
theorem up_any (p R : Nat) (w : World) :
    Calls Try.prog 84 #[.int .u64 (p : Int), .int .i64 (R : Int)] w fun e w' =>
      e = .returned (.func (.func 103) #[] #[.pointer (some ⟨w.heap.size, 0, none⟩), .pointer (some ⟨w.heap.size + 1, 0, none⟩)]) ∧
      w' = (w.alloc (.cells #[.int .u64 (p : Int)] 22)).alloc (.cells #[.int .i64 (R : Int)] 3) := by
  have hmf : ∀ (fn : Fn) (first cap : Array Value) (w : World), (Instr.makeFunc fn first cap).run Try.prog w = .ok (.func fn first cap) w := fun _ _ _ _ => rfl
  go_enter Try.func84, Try.ntmps84
  go_wp2
  go_ret
  exact ⟨rfl, rfl⟩

def cellNat (w : World) (b : Nat) : Nat := match w.cell? ⟨b, 0, none⟩ with | some (.int _ n) => n.toNat | _ => 0

def okOf : Value → Bool | .bool b => b | _ => false

set_option maxHeartbeats 1000000 in
theorem up_iter (p R bp br : Nat) (hR : R ≤ 63) (hp : p < 2 ^ 64) (w0 : World) (hne : bp ≠ br) (hbp : bp < w0.heap.size) (hbr : br < w0.heap.size)
    (hcp : w0.cell? ⟨bp, 0, none⟩ = some (.int .u64 (p : Int))) (hcr : w0.cell? ⟨br, 0, none⟩ = some (.int .i64 (R : Int))) (hfp : w0.frozen? ⟨bp, 0, none⟩ = false) :
    Iter Try.prog 103 #[.pointer (some ⟨bp, 0, none⟩), .pointer (some ⟨br, 0, none⟩)] (fun x : Nat => #[.int .u64 (x : Int)]) (· = bp) (fun b => b = bp ∨ b = br) (upL R 65 p) w0 := by
  intro l J Jx W hW hJ hJx hY h0
  refine callsIn_of_wp Try.func103 rfl trivial ?_ rfl
  simp only [Try.ntmps103, List.size_toArray, List.length_cons, List.length_nil, Nat.reduceAdd, Nat.reduceSub, Array.replicate_succ, Array.replicate_zero, List.push_toArray, List.append_toArray, List.nil_append, List.cons_append]
  gi_wp2
  gi_loopw [4] (fun ok wr => ∃ (b : Bool), ok = .bool b ∧ W.heap.size ≤ wr.heap.size ∧ wr.cell? ⟨br, 0, none⟩ = some (.int .i64 (R : Int)) ∧
      (b = true → ∃ (f q : Nat) (pre : List Nat), q < 2 ^ 64 ∧ 65 ≤ f + rowN q R ∧ upL R 65 p = pre ++ upL R f q ∧ wr.cell? ⟨bp, 0, none⟩ = some (.int .u64 (q : Int)) ∧ wr.frozen? ⟨bp, 0, none⟩ = false ∧ J pre wr) ∧
      (b = false → J (upL R 65 p) wr))
    (fun ok wr => if okOf ok then 1 + (64 - rowN (cellNat wr bp) R) else 0)
  case atStart =>
    exact ⟨true, rfl, Nat.le_refl _, (hW.cell hbr).trans hcr, fun _ => ⟨65, p, [], hp, by omega, rfl, (hW.cell hbp).trans hcp, (hW.frozen hbp).trans hfp, h0⟩, fun h => by cases h⟩
  case round =>
    obtain ⟨b, rfl, hsz, hcr1, ht, hf⟩ := hrel
    cases b with
    | false =>
      clear ht
      have hf := hf rfl
      gi_wp2
      refine ⟨fun _ h => (by cases h), ?_⟩
      gi_wp2
      go_end0
      exact ⟨⟨_, rfl⟩, .inl (hf trivial)⟩
    | true =>
      clear hf
      obtain ⟨f, q, pre, hq, hfr, hx, hcq, hfq, hJs⟩ := ht rfl
      clear ht
      have hrq := rowN_le q R hR
      obtain ⟨f, rfl⟩ : ∃ k, f = k + 1 := ⟨f - 1, by omega⟩
      obtain ⟨fn, tmps, assign, body, hy, hRn⟩ := hY pre q wr hJs (by rw [hx]; exact ⟨if parentOk q R then upL R f (parentN q R) else [], by simp [upL]⟩)
      have HX := Lib.hid hx
      clear hx hY
      gi_wp2
      refine hRn.mono ?_
      rintro e W3 (⟨rfl, hJ3, hk3⟩ | ⟨rfl, hJx3⟩)
      · have hcp3 : W3.cell? ⟨bp, 0, none⟩ = some (.int .u64 (q : Int)) := (World.cell?_of_block (hk3.read bp (.inl rfl) (by have := hW.size; omega))).trans hcq
        have hcr3 : W3.cell? ⟨br, 0, none⟩ = some (.int .i64 (R : Int)) := (World.cell?_of_block (hk3.read br (.inr rfl) (by have := hW.size; omega))).trans hcr1
        have hfp3 : W3.frozen? ⟨bp, 0, none⟩ = false := (World.frozen?_of_block (hk3.read bp (.inl rfl) (by have := hW.size; omega))).trans hfq
        gi_wp2_with (refine ⟨trivial, ?_⟩; gi_at_call 80; refine (callsIn_wide.2 (Parent_any _ _ _ hR hq)).mono ?_; rintro e w' ⟨rfl, rfl⟩)
        have hle := hk3.size
        have hcn : cellNat wr bp = q := by simp [cellNat, hcq]
        have hother : ∀ v, (W3.setCell ⟨bp, 0, none⟩ v).cell? ⟨br, 0, none⟩ = some (.int .i64 (R : Int)) := fun v => by
          rw [World.cell?_setCell_other (h := fun e => hne (by cases e; rfl))]; exact hcr3
        have hsame : ∀ v, (W3.setCell ⟨bp, 0, none⟩ v).cell? ⟨bp, 0, none⟩ = some v := fun v => by rw [World.cell?_setCell_same (h := hcp3)]
        cases hpo : parentOk q R with
        | false =>
          have e1 : upL R 65 p = pre ++ [q] := by rw [HX.out]; simp [upL, hpo]
          refine ⟨⟨false, rfl, by simp [World.setCell]; omega, hother _, (fun h => by cases h), fun _ => ?_⟩, ?_⟩
          · rw [e1]; exact hJ _ _ _ hJ3 (Keeps.setOwn _ _ _ _ _ rfl)
          · simp [okOf]; omega
        | true =>
          obtain ⟨k1, k2⟩ := parent_pos q R hR hpo
          have k3 := rowN_le (parentN q R) R hR
          refine ⟨⟨true, rfl, by simp [World.setCell]; omega, hother _, fun _ => ⟨f, parentN q R, pre ++ [q], parentN_lt q R hR, by omega, ?_, hsame _, ?_, ?_⟩, (fun h => by cases h)⟩, ?_⟩
          · rw [HX.out]; simp [upL, hpo]
          · rw [World.frozen?_setCell]; exact hfp3
          · exact hJ _ _ _ hJ3 (Keeps.setOwn _ _ _ _ _ rfl)
          · have hc2 : cellNat (W3.setCell ⟨bp, 0, none⟩ (.int .u64 (parentN q R : Int))) bp = parentN q R := by simp only [cellNat, hsame]; simp
            rw [hc2, hcn]
            simp only [okOf, if_true]
            omega
      · gi_wp2
        go_end0
        exact ⟨⟨_, rfl⟩, .inr ⟨pre ++ [q], by rw [HX.out]; exact ⟨if parentOk q R then upL R f (parentN q R) else [], by simp [upL]⟩, hJx3⟩⟩
theorem up_enters (args : Array Value) (w : World) : (callFunc 103 args).run Try.prog w = .ok (.enter 103 args) w := enters_of Try.func103 (by kernel_rfl) rfl args w

theorem own_ne {W : World} {base : Nat} {e : TypeId} {size : Nat} {v : Value} {n : Nat} {xs : List Value} (h : W.ownsRow base e size v n xs) {b : Nat} (hb : b < base) : v.ownBlock ≠ some b := fun e => by
  have := (h.lt b e).1; omega

theorem own_weaken {W : World} {base base' : Nat} {e : TypeId} {size : Nat} {v : Value} {n : Nat} {xs : List Value} (h : W.ownsRow base e size v n xs) (hb : base' ≤ base) : W.ownsRow base' e size v n xs := by
  obtain ⟨h1, h2⟩ := h
  refine ⟨h1, h2.imp id ?_⟩
  rintro ⟨g, cap, cur, hv, hg, r⟩
  exact ⟨g, cap, cur, hv, by omega, r⟩

/-- A box beside a row that grows. -/
theorem box_grown {W w1 : World} {b base : Nat} {t e : TypeId} {u v : Value} {size k : Nat} {xs : List Value} (hb : Boxed W b t u) (hrow : W.ownsRow base e size v k xs) (hlt : b < base) {tmp : Obj} (hg : (W.alloc tmp).grownBy w1 v.ownBlock) : Boxed w1 b t u :=
  (hb.alloc tmp).kept hg (fun e => own_ne hrow hlt e.symm)

/-- Between two rounds of Way's loop. -/
def WayI (n r0 B : Nat) (w : World) (pre : List Nat) (W : World) : Prop :=
  ∃ v, Boxed W B 22 (.int .u64 (n : Int)) ∧ Boxed W (B + 1) 23 v ∧ Boxed W (B + 2) 3 (.int .i64 ((r0 + pre.length : Nat) : Int)) ∧ W.ownsRow (B + 5) 22 1 v pre.length (pre.map uv) ∧ noRoot n r0 pre ∧ Below B w W ∧ B + 5 ≤ W.heap.size
def WayX (n p B : Nat) (w : World) (c : Code) (pre : List Nat) (W : World) : Prop :=
  c = .ret ∧ ∃ v, Boxed W (B + 1) 23 v ∧ W.ownsRow (B + 5) 22 1 v pre.length (pre.map uv) ∧ wayN n p = pre ∧ Below B w W ∧ B + 5 ≤ W.heap.size

theorem WayI.keeps {n r0 B K : Nat} {w : World} {pre : List Nat} {A C : World} (h : WayI n r0 B w pre A) (hk : Keeps K (· = B + 3) A C) (hK : B ≤ K) : WayI n r0 B w pre C := by
  obtain ⟨v, h1, h2, h3, h4, h5, h6, h7⟩ := h
  exact ⟨v, hk.block h1 rfl (by omega), hk.block h2 rfl (by omega), hk.block h3 rfl (by omega), hk.ownsRow h4 (fun b hb => own_ne h4 (by omega)), h5, hk.below h6 (by omega) hK (fun b hb => by omega), Nat.le_trans h7 hk.size⟩
theorem WayX.keeps {n p B K : Nat} {w : World} {c : Code} {pre : List Nat} {A C : World} (h : WayX n p B w c pre A) (hk : Keeps K (· = B + 3) A C) (hK : B ≤ K) : WayX n p B w c pre C := by
  obtain ⟨e, v, h2, h4, h5, h6, h7⟩ := h
  exact ⟨e, v, hk.block h2 rfl (by omega), hk.ownsRow h4 (fun b hb => own_ne h4 (by omega)), h5, hk.below h6 (by omega) hK (fun b hb => by omega), Nat.le_trans h7 hk.size⟩

set_option maxHeartbeats 1000000 in
theorem Way_any (n p : Nat) (w : World) (hn : n < 2 ^ 64) (hp : p < 2 ^ 64) :
    Calls Try.prog 49 #[.int .u64 (n : Int), .int .u64 (p : Int)] w fun e w' => ∃ v, e = .returned v ∧ w'.ownsRow w.heap.size 22 1 v (wayN n p).length ((wayN n p).map uv) ∧ Below w.heap.size w w' := by
  refine (callsIn_wide (n := 3)).1 (callsIn_of_wp_marks Try.func49 rfl trivial (wpIn_wide.2 ?_))
  simp only [Try.ntmps49, List.size_toArray, List.length_cons, List.length_nil, Nat.reduceAdd, Nat.reduceSub, Array.replicate_succ, Array.replicate_zero, List.push_toArray, List.append_toArray, List.nil_append, List.cons_append]
  have hR := rowsN_le n
  by_cases hok : rowsOk n = true
  case neg =>
    have hok : rowsOk n = false := by simpa using hok
    go_wp2_with (first | (go_at_call 17; refine (Rows_any _ _ hn).mono ?_; rintro e w' ⟨rfl, rfl⟩) | (go_at_call 50; refine (Row_any _ _ _ hR (by assumption)).mono ?_; rintro e w' ⟨rfl, rfl⟩))
    have e : wayN n p = [] := by simp [wayN, hok]
    rw [e]
    refine ⟨.slice none 0 0, by simp [results, Try.results49, go_sem], .slice none 0 0, rfl, World.ownsRow_nil _ _ _ _, ?_⟩
    exact (((Below.refl _ w).alloc (Nat.le_refl _) _).alloc (by simp) _).alloc (by simp; omega) _
  by_cases hip : isPos p (rowsN n) = true
  case neg =>
    have hip : isPos p (rowsN n) = false := by simpa using hip
    go_wp2_with (first | (go_at_call 17; refine (Rows_any _ _ hn).mono ?_; rintro e w' ⟨rfl, rfl⟩) | (go_at_call 50; refine (Row_any _ _ _ hR (by assumption)).mono ?_; rintro e w' ⟨rfl, rfl⟩))
    have e : wayN n p = [] := by simp [wayN, hip]
    rw [e]
    refine ⟨.slice none 0 0, by simp [results, Try.results49, go_sem], .slice none 0 0, rfl, World.ownsRow_nil _ _ _ _, ?_⟩
    exact (((Below.refl _ w).alloc (Nat.le_refl _) _).alloc (by simp) _).alloc (by simp; omega) _
  have hrl := rowN_le p (rowsN n) hR
  go_wp2_with (first | (go_at_call 17; refine (Rows_any _ _ hn).mono ?_; rintro e w' ⟨rfl, rfl⟩) | (go_at_call 50; refine (Row_any _ _ _ hR (by assumption)).mono ?_; rintro e w' ⟨rfl, rfl⟩) | (go_at_call 84; refine (up_any _ _ _).mono ?_; rintro e w' ⟨rfl, rfl⟩))
  obtain ⟨i0, hi, hz0, hz1, hz2⟩ := info_parts Pinfo_u64
  refine range_law (encs := fun x : Nat => #[.int .u64 (x : Int)]) (own := (· = w.heap.size + 3)) (rd := fun b => b = w.heap.size + 3 ∨ b = w.heap.size + 4) (xs := upL (rowsN n) 65 p) rfl up_enters (by intro b hb; simp; omega) (by intro b hb; simp; omega)
    (up_iter p (rowsN n) (w.heap.size + 3) (w.heap.size + 4) hR hp _ (by omega) (by simp) (by simp) ?cp ?cr ?fp) (fun _ => rfl)
    (WayI n (rowN p (rowsN n)) w.heap.size w) (WayX n p w.heap.size w) (fun s A C h hk => h.keeps hk (by simp; omega)) (fun c s A C h hk => h.keeps hk (by simp; omega)) ?start
    ?round ?done ?stop
  case cp =>
    rw [World.cell?_alloc_past _ _ _ (by simp), World.cell?_alloc_at _ _ _ _ (by simp)]; rfl
  case cr => rw [World.cell?_alloc_at _ _ _ _ (by simp)]; rfl
  case fp =>
    rw [World.frozen?_alloc_past _ _ _ (by simp), World.frozen?_alloc_at _ _ _ _ (by simp)]
  case start =>
    refine ⟨.slice none 0 0, ?_, ?_, ?_, World.ownsRow_nil _ _ _ _, trivial, ?_, by simp⟩
    · exact ((((Boxed.new _ _ _).alloc _).alloc _).alloc _).alloc _
    · have := ((((Boxed.new (w.alloc (.cells #[.int .u64 (n : Int)] 22)) 23 (.slice none 0 0)).alloc (.cells #[.int .i64 (rowN p (rowsN n) : Int)] 3)).alloc (.cells #[.int .u64 (p : Int)] 22)).alloc (.cells #[.int .i64 (rowsN n : Int)] 3))
      simpa using this
    · have := (((Boxed.new ((w.alloc (.cells #[.int .u64 (n : Int)] 22)).alloc (.cells #[.slice none 0 0] 23)) 3 (.int .i64 (rowN p (rowsN n) : Int))).alloc (.cells #[.int .u64 (p : Int)] 22)).alloc (.cells #[.int .i64 (rowsN n : Int)] 3))
      simpa using this
    · exact (((((Below.refl _ w).alloc (Nat.le_refl _) _).alloc (by simp) _).alloc (by simp; omega) _).alloc (by simp; omega) _).alloc (by simp; omega) _
  case round =>
    intro l pre x W hl hpre hI
    gi_wp2
    refine ⟨trivial, ?_⟩
    clear hI W hl
    intro W _ hI
    obtain ⟨v, hb0, hb1, hb2, hrow, hno, hB, hsz⟩ := hI
    have hc1 := hb1.cell
    have hf1 := hb1.frozen
    have hlen : pre.length ≤ 64 := by have := hpre.length_le; have := upL_length (rowsN n) 65 p; simp at *; omega
    have HP := Lib.hid hpre
    clear hpre
    obtain ⟨h, hh⟩ : ∃ h, rowN p (rowsN n) + pre.length = h := ⟨_, rfl⟩
    rw [hh] at hb2
    have hhb : h < 2 ^ 62 := by omega
    have HH := Lib.hid hh
    clear hh
    -- what the three ways share
    have fin1 : ∀ (g' cap' : Nat) (w1 : World), w1.ownsRow (w.heap.size + 5) 22 1 (.slice (some ⟨g', 0, none⟩) (pre.length + 1) cap') (pre.length + 1) (pre.map uv ++ [uv x]) → (W.alloc (.cells #[.int .u64 (x : Int)] 22)).grownBy w1 v.ownBlock →
        Below w.heap.size w w1 ∧ w.heap.size + 5 ≤ w1.heap.size ∧ Round (w.heap.size + 5) (fun b => b = w.heap.size + 3 ∨ b = w.heap.size + 4) W w1 := fun g' cap' w1 hown' hgrow => by
      have hB2 := (hB.alloc (by omega) (.cells #[.int .u64 (x : Int)] 22)).grown hgrow (by simp; omega) (fun k hk => by have := (hrow.lt k hk).1; omega)
      refine ⟨hB2, by have := hgrow.size; simp at this; omega, (Round.alloc _ _ W _).trans (Round.grown _ _ hgrow fun k hk => ⟨by have := (hrow.lt k hk).1; simp; omega, .inr fun o ho => ?_⟩)⟩
      rcases (hrow.alloc (.cells #[.int .u64 (x : Int)] 22)).2 with ⟨rfl, _⟩ | ⟨g, cap, cur, rfl, _, hgb, _⟩
      · simp [Value.ownBlock] at hk
      · obtain rfl : g = k := by simpa [Value.ownBlock] using hk
        rw [hgb] at ho; cases ho; rfl
    by_cases hra : rootAt n x h = true
    case pos =>
      have hro : rootOk n h = true := by simp only [rootAt, Bool.and_eq_true] at hra; exact hra.1
      have hrn : rootN n h = x := by simp only [rootAt, Bool.and_eq_true, beq_iff_eq] at hra; exact hra.2
      gi_wp2_with (first | (gi_at_builtin; refine wpListIn_append_own _ rfl _ _ 23 rfl (w.heap.size + 5) 22 i0 (.int .u64 0) 1 8 Try.underlying23 hi hz0 hz1 hz2 rfl (by decide) v _ _ rfl (hrow.alloc _) ⟨W.heap.size, 0, none⟩ 1 1 [uv x] rfl rfl (one_news _ _ _ _) (by simp [uv, Value.oneCell']) (by unfold maxLen; omega) (by omega) (by simp; omega) ?_; intro v' w1 hown' hgrow _; obtain ⟨g', cap', rfl⟩ := ownsRow_succ hown'; have hb0' := box_grown hb0 hrow (by omega) hgrow; have hb1' := box_grown hb1 hrow (by omega) hgrow; have hb2' := box_grown hb2 hrow (by omega) hgrow; have hc0 := hb0'.cell; have hc1 := hb1'.cell; have hc2 := hb2'.cell; have hf1 := hb1'.frozen; have hf2 := hb2'.frozen) | (refine ⟨trivial, ?_⟩; gi_at_call 16; refine (CallsIn.inRound l (callsIn_wide.2 (Root_any n h _ hn hhb))).mono ?_; rintro e w' ⟨rfl, nr, rfl⟩))
      obtain ⟨hB2, hs2, hR2⟩ := fin1 _ _ _ hown' hgrow
      refine ⟨(((hR2.trans (Round.setCell _ _ _ ⟨w.heap.size + 1, 0, none⟩ _ (by simp))).trans (Round.drewN _ _ _ nr)).trans (Round.setCell _ _ _ ⟨w.heap.size + 1, 0, none⟩ _ (by simp))).less (by simp), rfl, _, ((hb1'.set _).set _ : Boxed ((w1.setCell _ _).setCell _ _) _ _ _), ?_, ?_, ?_, ?_⟩
      · have := ownsRow_setCell_below (ownsRow_setCell_below hown' (a := ⟨w.heap.size + 1, 0, none⟩) (by simp) (.slice (some ⟨g', 0, none⟩) (pre.length + 1) cap')) (a := ⟨w.heap.size + 1, 0, none⟩) (by simp) (.slice (some ⟨g', 0, none⟩) (pre.length + 1) cap')
        rw [show (pre ++ [x]).map uv = pre.map uv ++ [uv x] by simp, show (pre ++ [x]).length = pre.length + 1 by simp]; exact this
      · have := way_stop n (rowsN n) x 65 p (rowN p (rowsN n)) pre HP.out hno (by rw [HH.out]; exact hra)
        simp [wayN, hok, hip, this]
      · exact ((hB2.setCell (p := ⟨w.heap.size + 1, 0, none⟩) (by simp) _).trans (below_drewN _ _ nr)).setCell (p := ⟨w.heap.size + 1, 0, none⟩) (by simp) _
      · simp [World.setCell]; omega
    case neg =>
      have hra : rootAt n x h = false := by simpa using hra
      cases hro : rootOk n h
      case false =>
        gi_wp2_with (first | (gi_at_builtin; refine wpListIn_append_own _ rfl _ _ 23 rfl (w.heap.size + 5) 22 i0 (.int .u64 0) 1 8 Try.underlying23 hi hz0 hz1 hz2 rfl (by decide) v _ _ rfl (hrow.alloc _) ⟨W.heap.size, 0, none⟩ 1 1 [uv x] rfl rfl (one_news _ _ _ _) (by simp [uv, Value.oneCell']) (by unfold maxLen; omega) (by omega) (by simp; omega) ?_; intro v' w1 hown' hgrow _; obtain ⟨g', cap', rfl⟩ := ownsRow_succ hown'; have hb0' := box_grown hb0 hrow (by omega) hgrow; have hb1' := box_grown hb1 hrow (by omega) hgrow; have hb2' := box_grown hb2 hrow (by omega) hgrow; have hc0 := hb0'.cell; have hc1 := hb1'.cell; have hc2 := hb2'.cell; have hf1 := hb1'.frozen; have hf2 := hb2'.frozen) | (refine ⟨trivial, ?_⟩; gi_at_call 16; refine (CallsIn.inRound l (callsIn_wide.2 (Root_any n h _ hn hhb))).mono ?_; rintro e w' ⟨rfl, nr, rfl⟩))
        obtain ⟨hB2, hs2, hR2⟩ := fin1 _ _ _ hown' hgrow
        refine ⟨(((hR2.trans (Round.setCell _ _ _ ⟨w.heap.size + 1, 0, none⟩ _ (by simp))).trans (Round.drewN _ _ _ nr)).trans (Round.setCell _ _ _ ⟨w.heap.size + 2, 0, none⟩ _ (by simp))).less (by simp), _, (hb0'.other (by omega) _).other (by omega) _, (hb1'.set _).other (by omega) _, ?_, ?_, ?_, ?_, ?_⟩
        · have := (hb2'.other (B' := w.heap.size + 1) (by omega) (.slice (some ⟨g', 0, none⟩) (pre.length + 1) cap')).set (.int .i64 ((h : Int) + 1))
          have e : ((h : Int) + 1) = ((rowN p (rowsN n) + (pre ++ [x]).length : Nat) : Int) := by have := HH.out; simp; omega
          rw [← e]; exact this
        · have := ownsRow_setCell_below (ownsRow_setCell_below hown' (a := ⟨w.heap.size + 1, 0, none⟩) (by simp) (.slice (some ⟨g', 0, none⟩) (pre.length + 1) cap')) (a := ⟨w.heap.size + 2, 0, none⟩) (by simp) (.int .i64 ((h : Int) + 1))
          rw [show (pre ++ [x]).map uv = pre.map uv ++ [uv x] by simp, show (pre ++ [x]).length = pre.length + 1 by simp]; exact this
        · rw [noRoot_snoc]; exact ⟨hno, by rw [HH.out]; exact hra⟩
        · exact ((hB2.setCell (p := ⟨w.heap.size + 1, 0, none⟩) (by simp) _).trans (below_drewN _ _ nr)).setCell (p := ⟨w.heap.size + 2, 0, none⟩) (by simp) _
        · simp [World.setCell]; omega
      case true =>
        have hrn : ((rootN n h : Int) == (x : Int)) = false := by
          simp only [rootAt, hro, Bool.true_and] at hra
          simp at hra ⊢; omega
        gi_wp2_with (first | (gi_at_builtin; refine wpListIn_append_own _ rfl _ _ 23 rfl (w.heap.size + 5) 22 i0 (.int .u64 0) 1 8 Try.underlying23 hi hz0 hz1 hz2 rfl (by decide) v _ _ rfl (hrow.alloc _) ⟨W.heap.size, 0, none⟩ 1 1 [uv x] rfl rfl (one_news _ _ _ _) (by simp [uv, Value.oneCell']) (by unfold maxLen; omega) (by omega) (by simp; omega) ?_; intro v' w1 hown' hgrow _; obtain ⟨g', cap', rfl⟩ := ownsRow_succ hown'; have hb0' := box_grown hb0 hrow (by omega) hgrow; have hb1' := box_grown hb1 hrow (by omega) hgrow; have hb2' := box_grown hb2 hrow (by omega) hgrow; have hc0 := hb0'.cell; have hc1 := hb1'.cell; have hc2 := hb2'.cell; have hf1 := hb1'.frozen; have hf2 := hb2'.frozen) | (refine ⟨trivial, ?_⟩; gi_at_call 16; refine (CallsIn.inRound l (callsIn_wide.2 (Root_any n h _ hn hhb))).mono ?_; rintro e w' ⟨rfl, nr, rfl⟩))
        obtain ⟨hB2, hs2, hR2⟩ := fin1 _ _ _ hown' hgrow
        refine ⟨(((hR2.trans (Round.setCell _ _ _ ⟨w.heap.size + 1, 0, none⟩ _ (by simp))).trans (Round.drewN _ _ _ nr)).trans (Round.setCell _ _ _ ⟨w.heap.size + 2, 0, none⟩ _ (by simp))).less (by simp), _, (hb0'.other (by omega) _).other (by omega) _, (hb1'.set _).other (by omega) _, ?_, ?_, ?_, ?_, ?_⟩
        · have := (hb2'.other (B' := w.heap.size + 1) (by omega) (.slice (some ⟨g', 0, none⟩) (pre.length + 1) cap')).set (.int .i64 ((h : Int) + 1))
          have e : ((h : Int) + 1) = ((rowN p (rowsN n) + (pre ++ [x]).length : Nat) : Int) := by have := HH.out; simp; omega
          rw [← e]; exact this
        · have := ownsRow_setCell_below (ownsRow_setCell_below hown' (a := ⟨w.heap.size + 1, 0, none⟩) (by simp) (.slice (some ⟨g', 0, none⟩) (pre.length + 1) cap')) (a := ⟨w.heap.size + 2, 0, none⟩) (by simp) (.int .i64 ((h : Int) + 1))
          rw [show (pre ++ [x]).map uv = pre.map uv ++ [uv x] by simp, show (pre ++ [x]).length = pre.length + 1 by simp]; exact this
        · rw [noRoot_snoc]; exact ⟨hno, by rw [HH.out]; exact hra⟩
        · exact ((hB2.setCell (p := ⟨w.heap.size + 1, 0, none⟩) (by simp) _).trans (below_drewN _ _ nr)).setCell (p := ⟨w.heap.size + 2, 0, none⟩) (by simp) _
        · simp [World.setCell]; omega
  case done =>
    intro D W hD hI hK
    obtain ⟨v, hb0, hb1, hb2, hrow, hno, hB, hsz⟩ := hI
    have hc1 := hb1.cell
    have hf1 := hb1.frozen
    have hD2 : w.heap.size + 5 ≤ D := by simpa using hD
    go_wp2
    refine ⟨by simp, .inl ⟨_, _, rfl, run_takeDeferred ((KeepsOthers.setCell W ⟨w.heap.size + 1, 0, none⟩ (.slice none 0 0)).same D _ hK rfl), ?_⟩⟩
    have hbx : Boxed ((W.setCell ⟨w.heap.size + 1, 0, none⟩ (.slice none 0 0)).putObj D (.deferred none)) (w.heap.size + 1) 23 (.slice none 0 0) :=
      (hb1.set (.slice none 0 0)).kept (grownBy_putObj' _ D _) (by simp; omega)
    have e : wayN n p = [] := by simp [wayN, hok, hip, way_none n (rowsN n) 65 p _ hno]
    rw [e]
    refine ⟨.slice none 0 0, by simp [results, Try.results49, go_sem, hbx.cell], .slice none 0 0, rfl, World.ownsRow_nil _ _ _ _, ?_⟩
    exact (hB.setCell (p := ⟨w.heap.size + 1, 0, none⟩) (by simp) _).grown (grownBy_putObj' _ D _) (by simp [World.setCell]; omega) (fun k hk => by cases hk; omega)
  case stop =>
    intro D c pre W hD hpre hX hK
    obtain ⟨rfl, v, hb1, hrow, hw, hB, hsz⟩ := hX
    have hD2 : w.heap.size + 5 ≤ D := by simpa using hD
    go_wp2
    refine ⟨by simp, .inl ⟨_, _, rfl, run_takeDeferred hK, ?_⟩⟩
    have hbx : Boxed (W.putObj D (.deferred none)) (w.heap.size + 1) 23 v := hb1.kept (grownBy_putObj' _ D _) (by simp; omega)
    rw [hw]
    refine ⟨v, by simp [results, Try.results49, go_sem, hbx.cell], v, rfl, own_weaken (ownsRow_putObj hrow _ hK rfl) (by omega), ?_⟩
    exact hB.grown (grownBy_putObj' _ D _) (by omega) (fun k hk => by cases hk; omega)

set_option maxHeartbeats 400000 in
theorem Tree_any (n p : Nat) (w : World) (hn : n < 2 ^ 64) (hp : p < 2 ^ 64) :
    Calls Try.prog 15 #[.int .u64 (n : Int), .int .u64 (p : Int)] w fun e w' => e = .returned (.tuple #[.int .i64 (treeN n p : Nat), .bool (treeOk n p)]) ∧ Below w.heap.size w w' := by
  have hR := rowsN_le n
  have hlen := wayN_len n p
  have hlt := way_mem_lt n p hp
  go_enter Try.func15, Try.ntmps15
  cases hw : wayN n p with
  | nil =>
    go_wp2_with (go_at_call 49; refine (Way_any n p _ hn hp).mono ?_; rintro e w1 ⟨v, rfl, hrow, hB⟩; rw [hw] at hrow; obtain ⟨_, (⟨rfl, _⟩ | ⟨g, cap, cur, rfl, hg, hh, h1, h2, h3, h4⟩)⟩ := hrow)
    all_goals go_ret2
    all_goals exact ⟨ret2 (ival (by simp [treeN, hw])) (bval (by simp [treeOk, hw])), hB⟩
  | cons x l =>
    obtain ⟨y, hy⟩ : ∃ y, (x :: l)[l.length]? = some y := ⟨_, List.getElem?_eq_getElem (by simp)⟩
    have hy64 : y < 2 ^ 64 := hlt y (by rw [hw]; exact List.mem_of_getElem? hy)
    have hyl : (x :: l).getLastD 0 = y := by
      rw [List.getLastD_eq_getLast?, List.getLast?_eq_getElem?]
      simp only [List.length_cons, Nat.add_sub_cancel, hy, Option.getD_some]
    have HY := Lib.hid hyl
    have hlen2 : l.length ≤ 64 := by rw [hw] at hlen; simp at hlen; omega
    clear hlt hlen hyl
    have HYY := Lib.hid hy
    clear hy
    go_wp2_with (first | (go_at_call 49; refine (Way_any n p _ hn hp).mono ?_; rintro e w1 ⟨v, rfl, hrow, hB⟩; rw [hw] at hrow; obtain ⟨g, cap, rfl⟩ := ownsRow_succ hrow; have hcell := hrow.cellAt l.length (by simp); rw [List.getElem?_map, HYY.out] at hcell; simp only [Option.map_some, uv] at hcell; have hbc := bcell hB; clear hrow) | (go_at_call 17; refine (Rows_any _ _ hn).mono ?_; rintro e w' ⟨rfl, rfl⟩) | (go_at_call 50; refine (Row_any _ _ _ hR (by assumption)).mono ?_; rintro e w' ⟨rfl, rfl⟩))
    go_ret2
    refine ⟨ret2 (ival ?_) (bval ?_), hB⟩
    · simp only [treeN, hw, List.isEmpty_cons, HY.out]; rfl
    · have := way_mem_pos n p y (by rw [hw]; exact List.mem_of_getElem? HYY.out)
      simp only [treeOk, hw, List.isEmpty_cons, this]; rfl
end Go.Proofs.Ytcfpgcejahfdfab

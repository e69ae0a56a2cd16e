/- need's emptied, gone, asked, Gone. -/
import Derived.Test.YtcfpgcejahfdfabMadeW
import Derived.Test.YtcfpgcejahfdfabTreeM
namespace Go.Proofs.Ytcfpgcejahfdfab
open Go.RowKit Go.Maps Go.Shelf
attribute [local go_sem] Oper.semAt_some
set_option linter.unusedVariables false
set_option linter.unusedSimpArgs false

/-- On the way of a target. -/
def onWaysB (n : Nat) (ts : List Nat) (p : Nat) : Bool := ts.any fun t => (wayN n t).contains p
theorem onWaysB_iff (n : Nat) (ts : List Nat) (p : Nat) : onWaysB n ts p = true ↔ OnWays n ts ts.length p := by
  unfold onWaysB OnWays
  rw [List.take_length]
  simp [List.any_eq_true]

/-- Is a position that is no descendant of a target emptied? -/
def emptyN (n : Nat) (ts : List Nat) : Nat → Nat → Bool
  | 0, p => ts.contains p
  | f + 1, p => ts.contains p || (onWaysB n ts p && (emptyN n ts f (leftN p (rowsN n)) && emptyN n ts f (sibN (leftN p (rowsN n)) (rowsN n))))
def emptyB (n : Nat) (ts : List Nat) (p : Nat) : Bool := emptyN n ts (rowN p (rowsN n)) p
/-- Is a position emptied, or below one that is? -/
def goneB (n : Nat) (ts : List Nat) (p : Nat) : Bool := (wayN n p).any (fun a => ts.contains a) || emptyB n ts p

/-- A plan as a walk reads it. -/
structure PlanIn (n : Nat) (ts : List Nat) (bp bt bw m1 m : Nat) (ft fw : Nat → Nat) (W : World) : Prop where
  pl : Blk W bp #[.int .u64 (n : Nat), .int .i64 (rowsN n : Nat), .map (some bt), .map (some bw)] 100
  tg : MapN W bt m1 ft
  ways : MapN W bw m fw
  onT : ∀ j, j < 2 ^ 64 → (0 < ft j ↔ j ∈ ts)
  onW : ∀ j, j < 2 ^ 64 → (0 < fw j ↔ OnWays n ts ts.length j)
theorem PlanAt.inn {w : World} {n : Nat} {ts : List Nat} {bp bt bw m1 m : Nat} {ft fw : Nat → Nat} {W : World} (h : PlanAt w n ts bp bt bw m1 m ft fw W) : PlanIn n ts bp bt bw m1 m ft fw W := ⟨h.pl, h.tg, h.ways, h.onT, h.onW⟩
theorem PlanIn.step {n : Nat} {ts : List Nat} {bp bt bw m1 m : Nat} {ft fw : Nat → Nat} {W W' : World} (h : PlanIn n ts bp bt bw m1 m ft fw W) (hb : Below W.heap.size W W') : PlanIn n ts bp bt bw m1 m ft fw W' :=
  ⟨h.pl.below hb h.pl.lt, h.tg.below hb h.tg.lt, h.ways.below hb h.ways.lt, h.onT, h.onW⟩
theorem PlanIn.keeps {n : Nat} {ts : List Nat} {bp bt bw m1 m B : Nat} {ft fw : Nat → Nat} {W W' : World} (h : PlanIn n ts bp bt bw m1 m ft fw W) (hk : Keeps B (fun _ => False) W W') : PlanIn n ts bp bt bw m1 m ft fw W' :=
  ⟨hk.block h.pl rfl id, h.tg.keeps hk, h.ways.keeps hk, h.onT, h.onW⟩
theorem PlanIn.set {n : Nat} {ts : List Nat} {bp bt bw m1 m : Nat} {ft fw : Nat → Nat} {W : World} (h : PlanIn n ts bp bt bw m1 m ft fw W) (a : Addr) (v : Value) (h1 : ¬ bp = a.block) (h2 : ¬ bt = a.block) (h3 : ¬ bw = a.block) : PlanIn n ts bp bt bw m1 m ft fw (W.setCell a v) :=
  ⟨h.pl.other h1 v, h.tg.set h2, h.ways.set h3, h.onT, h.onW⟩

theorem look_pos {f : Nat} : 0 < f → ∃ q : Nat, f = q ∧ (0 : Int) < (q : Int) := fun h => ⟨f, rfl, by omega⟩

set_option maxRecDepth 100000 in
set_option maxHeartbeats 1000000 in
theorem emptied_any (n : Nat) (hn : n < 2 ^ 64) (ts : List Nat) (bp bt bw m1 m : Nat) (ft fw : Nat → Nat) : ∀ (f p : Nat) (w : World), PlanIn n ts bp bt bw m1 m ft fw w → p < 2 ^ 64 → rowN p (rowsN n) = f →
    Calls Try.prog 58 #[.pointer (some ⟨bp, 0, none⟩), .int .u64 (p : Nat)] w fun e w' => e = .returned (.bool (emptyN n ts f p)) ∧ w = w' := by
  intro f
  induction f with
  | zero =>
    intro p w hP hp hrow
    obtain ⟨p0, p1, p2, p3⟩ := hP.pl.fourC
    have hl1 := hP.tg.run_look p hp
    have hl2 := hP.ways.run_look p hp
    by_cases hm : p ∈ ts
    · have hq := (hP.onT p hp).2 hm
      obtain ⟨q, hq1, hq2⟩ := look_pos hq
      rw [hq1] at hl1
      have hfin : emptyN n ts 0 p = true := by simp [emptyN, hm]
      have HF := Lib.hid hfin
      clear hfin hm hq hq1 hrow hl2
      have HP64 := Lib.hid hp
      clear hp hn
      go_enter Try.func58, Try.ntmps58
      go_wp2
      go_ret
      exact ⟨by rw [HF.out]; exact ret1 (bval (decide_eq_true (by omega))), rfl⟩
    · have hq : ft p = 0 := by have := mt (hP.onT p hp).1 hm; omega
      have hno : ¬ OnWays n ts ts.length p := by
        rintro ⟨t, ht, hpt⟩
        rw [List.take_length] at ht
        exact hm (way_low hpt hrow ▸ ht)
      have hq2 : fw p = 0 := by have := mt (hP.onW p hp).1 hno; omega
      rw [hq] at hl1
      rw [hq2] at hl2
      have hl1' : (Instr.lookup 98 (.map (some bt)) (.int .u64 (p : Nat)) false).run Try.prog w = .ok (.int .i64 0) w := hl1
      have hl2' : (Instr.lookup 98 (.map (some bw)) (.int .u64 (p : Nat)) false).run Try.prog w = .ok (.int .i64 0) w := hl2
      have hfin : emptyN n ts 0 p = false := by simp [emptyN, hm]
      have HF := Lib.hid hfin
      clear hfin hm hq hq2 hrow hl1 hl2 hno
      have HP64 := Lib.hid hp
      clear hp hn
      go_enter Try.func58, Try.ntmps58
      go_wp2
      go_ret
      exact ⟨by rw [HF.out]; rfl, rfl⟩
  | succ f ih =>
    intro p w hP hp hrow
    have hR := rowsN_le n
    obtain ⟨p0, p1, p2, p3⟩ := hP.pl.fourC
    have hl1 := hP.tg.run_look p hp
    have hl2 := hP.ways.run_look p hp
    by_cases hm : p ∈ ts
    · have hq := (hP.onT p hp).2 hm
      obtain ⟨q, hq1, hq2⟩ := look_pos hq
      rw [hq1] at hl1
      have hfin : emptyN n ts (f + 1) p = true := by simp [emptyN, hm]
      have HF := Lib.hid hfin
      clear hfin hm hq hq1 hrow hl2 ih
      have HP64 := Lib.hid hp
      clear hp hn
      go_enter Try.func58, Try.ntmps58
      go_wp2
      go_ret
      exact ⟨by rw [HF.out]; exact ret1 (bval (decide_eq_true (by omega))), rfl⟩
    have hq : ft p = 0 := by have := mt (hP.onT p hp).1 hm; omega
    rw [hq] at hl1
    have hl1' : (Instr.lookup 98 (.map (some bt)) (.int .u64 (p : Nat)) false).run Try.prog w = .ok (.int .i64 0) w := hl1
    clear hl1 hq
    by_cases hon : OnWays n ts ts.length p
    · have hq2 := (hP.onW p hp).2 hon
      obtain ⟨q, hq3, hq4⟩ := look_pos hq2
      rw [hq3] at hl2
      have hz : ((q : Int) == 0) = false := by simp; omega
      have hpos : isPos p (rowsN n) = true := by
        obtain ⟨t, _, h⟩ := hon
        exact way_mem_pos n t p h
      obtain ⟨-, c2, -, c4, -, c6, -, c8⟩ := children p (rowsN n) hR hpos (by omega)
      have hfin : emptyN n ts (f + 1) p = (emptyN n ts f (leftN p (rowsN n)) && emptyN n ts f (sibN (leftN p (rowsN n)) (rowsN n))) := by
        have := (onWaysB_iff n ts p).2 hon
        simp [emptyN, hm, this]
      have cL := fun w => Left_any p (rowsN n) w hR hp
      have cS := fun w => Sibling_any (leftN p (rowsN n)) (rowsN n) w hR c4
      have c1 := ih (leftN p (rowsN n)) w hP c4 (by omega)
      have c2' := ih (sibN (leftN p (rowsN n)) (rowsN n)) w hP c8 (by omega)
      have HF := Lib.hid hfin
      generalize emptyN n ts f (leftN p (rowsN n)) = b1 at c1 HF
      generalize emptyN n ts f (sibN (leftN p (rowsN n)) (rowsN n)) = b2 at c2' HF
      clear hfin hm hq2 hq3 hon hpos hrow ih c2 c4 c6 c8
      cases b1
      all_goals
        have HP64 := Lib.hid hp
        clear hp hn
        go_enter Try.func58, Try.ntmps58
        go_wp2_with (first
          | ((with_reducible refine (cL _).mono ?_); rintro e w' ⟨rfl, rfl⟩)
          | ((with_reducible refine (cS _).mono ?_); rintro e w' ⟨rfl, rfl⟩)
          | ((with_reducible refine c1.mono ?_); rintro e w' ⟨rfl, rfl⟩)
          | ((with_reducible refine c2'.mono ?_); rintro e w' ⟨rfl, rfl⟩))
        go_ret
        exact ⟨by rw [HF.out]; simp, rfl⟩
    · have hq2 : fw p = 0 := by have := mt (hP.onW p hp).1 hon; omega
      rw [hq2] at hl2
      have hl2' : (Instr.lookup 98 (.map (some bw)) (.int .u64 (p : Nat)) false).run Try.prog w = .ok (.int .i64 0) w := hl2
      have hfin : emptyN n ts (f + 1) p = false := by
        have : onWaysB n ts p = false := by
          cases h : onWaysB n ts p
          · rfl
          · exact absurd ((onWaysB_iff n ts p).1 h) hon
        simp [emptyN, hm, this]
      have HF := Lib.hid hfin
      clear hfin hm hq2 hl2 hon hrow ih
      have HP64 := Lib.hid hp
      clear hp hn
      go_enter Try.func58, Try.ntmps58
      go_wp2
      go_ret
      exact ⟨by rw [HF.out]; rfl, rfl⟩
end Go.Proofs.Ytcfpgcejahfdfab

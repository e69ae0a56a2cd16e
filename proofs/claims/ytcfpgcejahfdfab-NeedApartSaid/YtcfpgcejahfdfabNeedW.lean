/- need.isRoot and need.Need. -/
import Derived.Test.YtcfpgcejahfdfabMovedW
import Derived.Test.YtcfpgcejahfdfabRising
namespace Go.Proofs.Ytcfpgcejahfdfab
open Go.RowKit Go.Maps Go.Shelf
attribute [local go_sem] Oper.semAt_some
set_option linter.unusedVariables false
set_option linter.unusedSimpArgs false

/-- Is a position the root of its tree? -/
def isRootB (n p : Nat) : Bool := rootN n (treeN n p) == p
theorem treeN_le (n p : Nat) : treeN n p ≤ 63 := by
  unfold treeN
  split
  · omega
  · exact Nat.le_trans (rowN_le _ _ (rowsN_le n)) (rowsN_le n)

set_option maxRecDepth 100000 in
set_option maxHeartbeats 1000000 in
theorem isRoot_any (n : Nat) (hn : n < 2 ^ 64) (ts : List Nat) (bp bt bw m1 m : Nat) (ft fw : Nat → Nat) (p : Nat) (w : World) (hP : PlanIn n ts bp bt bw m1 m ft fw w) (hp : p < 2 ^ 64) :
    Calls Try.prog 47 #[.pointer (some ⟨bp, 0, none⟩), .int .u64 (p : Nat)] w fun e W => e = .returned (.bool (isRootB n p)) ∧ Below w.heap.size w W := by
  have cT := fun w => Tree_any n p w hn hp
  have cR := fun w => Root_any n (treeN n p) w hn (by have := treeN_le n p; omega)
  obtain ⟨p0, p1, p2, p3⟩ := hP.pl.fourC
  obtain ⟨q, hq, HQ⟩ : ∃ q, rootN n (treeN n p) = q ∧ Hid ((q == p) = isRootB n p) := ⟨_, rfl, rfl⟩
  rw [hq] at cR
  have hH := Lib.hid hp
  clear hp hn hq
  go_enter Try.func47, Try.ntmps47
  go_wp2_with (first
    | ((with_reducible refine (cT _).mono ?_); rintro e W1 ⟨rfl, hb1⟩; obtain ⟨q0, q1, q2, q3⟩ := (hP.step hb1).pl.fourC)
    | ((with_reducible refine (cR _).mono ?_); rintro e W2 ⟨rfl, k, rfl⟩))
  go_ret
  refine ⟨ret1 (bval ?_), hb1.trans (below_drewN _ _ _)⟩
  rw [← HQ.out]
  rw [Bool.eq_iff_iff, beq_iff_eq, beq_iff_eq]
  omega

/-- The needed positions. -/
def needL (n : Nat) (ts : List Nat) : List Nat := ((ts.flatMap (wayN n)).filter fun p => !isRootB n p && !onWaysB n ts (sibN p (rowsN n))).map fun p => sibN p (rowsN n)

/-- What a part of the ways asks for. -/
def PickN (n : Nat) (ts ss : List Nat) (j : Nat) : Prop := ∃ p ∈ ss, isRootB n p = false ∧ onWaysB n ts (sibN p (rowsN n)) = false ∧ j = sibN p (rowsN n)
theorem pick_need {n : Nat} {ts ss : List Nat} (h : ∀ p, p ∈ ss ↔ p ∈ ts.flatMap (wayN n)) (j : Nat) : PickN n ts ss j ↔ j ∈ needL n ts := by
  unfold PickN needL
  simp only [List.mem_map, List.mem_filter, Bool.and_eq_true, Bool.not_eq_true']
  constructor
  · rintro ⟨p, hp, h1, h2, rfl⟩
    exact ⟨p, ⟨(h p).1 hp, h1, h2⟩, rfl⟩
  · rintro ⟨p, ⟨hp, h1, h2⟩, rfl⟩
    exact ⟨p, (h p).2 hp, h1, h2, rfl⟩
theorem pick_snoc {n : Nat} {ts ss : List Nat} {x : Nat} (j : Nat) : PickN n ts (ss ++ [x]) j ↔ PickN n ts ss j ∨ (isRootB n x = false ∧ onWaysB n ts (sibN x (rowsN n)) = false ∧ j = sibN x (rowsN n)) := by
  unfold PickN
  constructor
  · rintro ⟨p, hp, h1, h2, rfl⟩
    rcases List.mem_append.1 hp with h | h
    · exact .inl ⟨p, h, h1, h2, rfl⟩
    · simp at h; subst h; exact .inr ⟨h1, h2, rfl⟩
  · rintro (⟨p, hp, h1, h2, rfl⟩ | ⟨h1, h2, rfl⟩)
    · exact ⟨p, List.mem_append.2 (.inl hp), h1, h2, rfl⟩
    · exact ⟨x, by simp, h1, h2, rfl⟩

/-- What a loop over the ways has done. -/
structure NdI (w : World) (n : Nat) (ts : List Nat) (bp bt bw m1 m : Nat) (ft fw : Nat → Nat) (bn r : Nat) (D : DataW Unit) (left : Lit → Bool) (cnt : Nat) (ss : List Nat) (k : Nat) (g : Nat → Nat) (W : World) : Prop where
  rg : W.ranges Try.prog 22 (plainElem Try.prog 3) bw r m D left cnt
  cn : ss.length + cnt ≤ Maps.size D
  nd : ss.Nodup
  lt : ∀ x ∈ ss, x < 2 ^ 64
  mem : ∀ x, x < 2 ^ 64 → (x ∈ ss ↔ (Maps.has D (.int .u64 (x : Nat)) = true ∧ left (.int .u64 (x : Nat)) = false))
  plan : PlanIn n ts bp bt bw m1 m ft fw W
  need : MapN W bn k g
  kle : k ≤ ss.length
  pick : ∀ j, j < 2 ^ 64 → (0 < g j ↔ PickN n ts ss j)
  below : Below w.heap.size w W
  bnr : bn < r
  szr : r < W.heap.size
  low : w.heap.size ≤ bn
  nb : bp < bn ∧ bt < bn ∧ bw < bn

theorem PlanIn.grown {n : Nat} {ts : List Nat} {bp bt bw m1 m : Nat} {ft fw : Nat → Nat} {W W' : World} {row : Option Nat} (h : PlanIn n ts bp bt bw m1 m ft fw W) (hg : W.grownBy W' row) (h1 : some bp ≠ row) (h2 : some bt ≠ row) (h3 : some bw ≠ row) : PlanIn n ts bp bt bw m1 m ft fw W' :=
  ⟨(hg.block _ h.pl.lt h1).trans h.pl, h.tg.grown hg h2, h.ways.grown hg h3, h.onT, h.onW⟩

/-- What Need tells. -/
def NeedAt (n : Nat) (ts : List Nat) (w : World) (e : Ending) (W : World) : Prop :=
  (¬ Fine n ts ∧ e = .returned (.tuple #[.slice none 0 0, .int .i64 2]) ∧ Below w.heap.size w W) ∨
  (Fine n ts ∧ ∃ (ks : List Nat) (v : Value), (ks.Pairwise (· < ·) ∧ ∀ x, x ∈ ks ↔ x ∈ needL n ts) ∧ e = .returned (.tuple #[v, .int .i64 0]) ∧ W.ownsRow w.heap.size 22 1 v ks.length (ks.map uv) ∧ Below w.heap.size w W)

set_option maxRecDepth 100000 in
set_option maxHeartbeats 4000000 in
theorem Need_any (N : Nat) (hSt : SortsC N) (n : Nat) (ts : List Nat) (v : Value) (w : World) (hn : n < 2 ^ 64) (hts : ∀ t ∈ ts, t < 2 ^ 64) (hl : ts.length ≤ 16084284383) (hv : ArgAt w v ts)
    (hN : ∀ xs : List Nat, xs.Nodup → (∀ x, x ∈ xs ↔ x ∈ needL n ts) → xs.length ≤ 70 * ts.length → xs.length ≤ N) :
    Calls Try.prog 13 #[.int .u64 (n : Nat), v] w (NeedAt n ts w) := by
  obtain ⟨a, len, cap, rfl, -, -⟩ := hv.open
  have cM := made_any n ts _ w hn hts (by omega) hv
  have hmm := @run_makeMap Try.prog
  by_cases hF : Fine n ts
  case neg =>
    have cM' : Calls Try.prog 46 #[.int .u64 (n : Nat), .slice a len cap] w fun e W => e = .returned (.tuple #[.pointer none, .int .i64 2]) ∧ Below w.heap.size w W :=
      cM.mono fun e W h => by
        rcases h with ⟨_, h⟩ | ⟨h, _⟩
        · exact h
        · exact absurd h hF
    clear cM hn hts hl hv
    go_enter Try.func13, Try.ntmps13
    go_wp2_with ((with_reducible refine cM'.mono ?_); rintro e W1 ⟨rfl, hB⟩; clear cM')
    go_ret2
    exact .inl ⟨hF, rfl, hB⟩
  case pos =>
    have cM' : Calls Try.prog 46 #[.int .u64 (n : Nat), .slice a len cap] w fun e W => ∃ bp bt bw m1 m ft fw, e = .returned (.tuple #[.pointer (some ⟨bp, 0, none⟩), .int .i64 0]) ∧ PlanAt w n ts bp bt bw m1 m ft fw W :=
      cM.mono fun e W h => by
        rcases h with ⟨h, _⟩ | ⟨_, h⟩
        · exact absurd hF h
        · exact h
    have hR := rowsN_le n
    have HN := Lib.hid hn
    have HTS := Lib.hid hts
    have HL := Lib.hid hl
    have HNN := Lib.hid hN
    clear cM hn hts hl hv hN
    go_enter Try.func13, Try.ntmps13
    go_wp2_with (first
      | ((with_reducible refine cM'.mono ?_); rintro e W1 ⟨bp, bt, bw, m1, m, ft, fw, rfl, hP⟩; clear cM'; have hP1 := hP.inn; have hP2 := hP1.step ((Below.refl _ W1).alloc (Nat.le_refl _) (.map #[] 0)); obtain ⟨q0, q1, q2, q3⟩ := hP2.pl.fourC; obtain ⟨D, hown, hatk, hhas, hvl⟩ := hP2.ways; have l1 := hP1.pl.lt; have l2 := hP1.tg.lt; have l3 := hP1.ways.lt)
      | (at_range; refine wpList_range_own _ rfl _ 98 rfl 22 3 keyedU setT _ bw m D rfl hown ?_; intro w1 hrg0 hg0 hs0))
    try go_frame
    have e26 : (W1.alloc (.map #[] 0)).heap.size = W1.heap.size + 1 := by simp
    simp only [e26]
    rw [e26] at hrg0
    have hlow := hP.lp
    have hsz1 : w1.heap.size = W1.heap.size + 2 := by simpa using hs0
    have hpl3 : PlanIn n ts bp bt bw m1 m ft fw w1 := hP2.grown hg0 (by simp) (by simp) (by simp)
    have hne3 : MapN w1 W1.heap.size 0 (fun _ => 0) := (MapN.made W1).grown hg0 (by simp)
    have hB3 : Below w.heap.size w w1 := (hP.below.alloc hP.below.size _).grown hg0 (by simpa using Nat.le_succ_of_le hP.below.size) (by simp)
    have hm70 := hP.mle
    have hDm := owns_size hown
    have hP1' := Lib.hid hP
    clear hP hP1 hP2
    go_loopw [9] (fun _ wr => ∃ (left : Lit → Bool) (cnt : Nat) (ss : List Nat) (k : Nat) (g : Nat → Nat), NdI w n ts bp bt bw m1 m ft fw W1.heap.size (W1.heap.size + 1) D left cnt ss k g wr) (fun _ wr => wr.rangeLeft bw (W1.heap.size + 1))
    case atStart =>
      exact ⟨_, _, [], 0, fun _ => 0, hrg0, by simp, by simp, by simp, fun x _ => ⟨fun h => by simp at h, fun ⟨h1, h2⟩ => by rw [h1] at h2; cases h2⟩, hpl3, hne3, Nat.zero_le _, fun j _ => ⟨fun h => by omega, fun ⟨p, hp, _⟩ => by simp at hp⟩, hB3, by omega, by omega, by have := hP1'.out.below.size; omega, by omega⟩
    case round =>
      obtain ⟨left, cnt, ss, k, g, hI⟩ := hrel
      have hrg := hI.rg
      clear hrg0 hg0 hs0 hpl3 hne3 hB3
      go_wp2_with (at_next; refine wpList_next_ranges_ii _ rfl _ rfl 22 3 .u64 .i64 keyedU Try.underlying22 Try.underlying3 bw (W1.heap.size + 1) m _ _ _ rfl hrg ?_ ?_)
      · intro hc0 hl0
        have hss : ∀ x, x < 2 ^ 64 → (x ∈ ss ↔ OnWays n ts ts.length x) := fun x hx => by
          rw [hI.mem x hx, hhas x hx, ← hI.plan.onW x hx]
          simp [hl0]
        have hpk : ∀ j, PickN n ts ss j ↔ j ∈ needL n ts := fun j => pick_need (fun p => by
          have e : OnWays n ts ts.length p ↔ p ∈ ts.flatMap (wayN n) := by unfold OnWays; rw [List.take_length]; simp
          constructor
          · intro h; exact e.1 ((hss p (hI.lt p h)).1 h)
          · intro h
            obtain ⟨t, ht, hp⟩ := e.2 h
            rw [List.take_length] at ht
            exact (hss p (way_mem_lt n t (HTS.out t ht) p hp)).2 (e.2 h)) j
        have hks : ∀ xs, KeysUp g xs → ∀ x, x ∈ xs ↔ x ∈ needL n ts := fun xs h x => by
          rw [h.2 x]
          constructor
          · rintro ⟨h1, h2⟩; exact (hpk x).1 ((hI.pick x h1).1 h2)
          · intro h1
            have h2 := (hpk x).2 h1
            have hx : x < 2 ^ 64 := by obtain ⟨p, _, _, _, rfl⟩ := h2; exact sibN_lt _ _ (rowsN_le n)
            exact ⟨hx, (hI.pick x hx).2 h2⟩
        have hkm : k ≤ 70 * ts.length := by have := hI.kle; have := hI.cn; omega
        have cS := rising_any N hSt g W1.heap.size k wr hI.need (fun xs h1 h2 => HNN.out xs h1.1 (fun x => by
          rw [h1.2 x]
          constructor
          · rintro ⟨h1, h2⟩; exact (hpk x).1 ((hI.pick x h1).1 h2)
          · intro h1
            have h2 := (hpk x).2 h1
            have hx : x < 2 ^ 64 := by obtain ⟨p, _, _, _, rfl⟩ := h2; exact sibN_lt _ _ (rowsN_le n)
            exact ⟨hx, (hI.pick x hx).2 h2⟩) (by omega)) (by have := HL.out; omega)
        have hB := hI.below
        have HKS := Lib.hid hks
        clear hks hpk hss hc0 hl0 hI hrg hhas hatk hvl
        go_wp2_with ((with_reducible refine cS.mono ?_); rintro e W4 ⟨ks, v, hks, rfl, hrow, hb4⟩)
        go_ret2
        exact .inr ⟨hF, ks, v, ⟨hks.1, HKS.out ks hks⟩, rfl, own_weaken hrow hB.size, bl_step hB hb4⟩
      · intro x c w2 cnt2 hwf hwc hlk hat hrg2 hlt2 hg2 hs2 hen
        have b01 : 0 ≤ x ∧ x ≤ 18446744073709551615 := by simp [Lit.wf, IntKind.min, IntKind.max, IntKind.signed, IntKind.bits] at hwf; omega
        obtain ⟨y, hy⟩ : ∃ y : Nat, x = (y : Int) := ⟨x.toNat, by omega⟩
        subst hy
        have hy64 : y < 2 ^ 64 := by omega
        have hhy : Maps.has D (.int .u64 (y : Nat)) = true := has_true_of_atKey hat
        have hny : y ∉ ss := fun h => by have := ((hI.mem y hy64).1 h).2; rw [hlk] at this; cases this
        have hnb := hI.nb
        have hbnr := hI.bnr
        have hszr := hI.szr
        have hP2 : PlanIn n ts bp bt bw m1 m ft fw w2 := hI.plan.grown hg2 (by simp; omega) (by simp; omega) (by simp; omega)
        have hM2 : MapN w2 W1.heap.size k g := hI.need.grown hg2 (by simp)
        have hB2 : Below w.heap.size w w2 := hI.below.grown hg2 hI.below.size (fun k hk => by cases hk; have := hI.low; omega)
        have cI := isRoot_any n HN.out ts bp bt bw m1 m ft fw y w2 hP2 hy64
        have cS := fun W => Sibling_any y (rowsN n) W hR hy64
        have hcnd : ∀ z, z < 2 ^ 64 → (z ∈ ss ++ [y] ↔ (Maps.has D (.int .u64 (z : Nat)) = true ∧ (left (.int .u64 (z : Nat)) && !(Lit.int .u64 (z : Nat)).sameKey (.int .u64 (y : Nat))) = false)) := fun z hz => by
          by_cases e : z = y
          · subst e
            have : (Lit.int .u64 (z : Nat)).sameKey (.int .u64 (z : Nat)) = true := by simp [Lit.sameKey]
            simp [hhy, this]
          · have : (Lit.int .u64 (z : Nat)).sameKey (.int .u64 (y : Nat)) = false := sameKey_ne (fun h => e (by simp at h; omega))
            simp [hI.mem z hz, e, this]
        have hndy : (ss ++ [y]).Nodup := by
          rw [List.nodup_append]
          exact ⟨hI.nd, by simp, fun a ha c hc e => by simp at hc; subst hc; subst e; exact hny ha⟩
        have hs64 := sibN_lt y (rowsN n) hR
        have hcn := hI.cn
        have hkle := hI.kle
        have hge := hI.below.size
        have hlowi := hI.low
        have hpick := hI.pick
        have hlty : ∀ x ∈ ss ++ [y], x < 2 ^ 64 := fun z hz => by
          rcases List.mem_append.1 hz with h | h
          · exact hI.lt z h
          · simp at h; subst h; exact hy64
        have htoo : ∀ W3, Below w2.heap.size w2 W3 → ∀ (k' : Nat) (g' : Nat → Nat) (W4 : World), W3.grownBy W4 (some W1.heap.size) → MapN W4 W1.heap.size k' g' → k' ≤ k + 1 → (∀ j, j < 2 ^ 64 → (0 < g' j ↔ PickN n ts (ss ++ [y]) j)) →
            NdI w n ts bp bt bw m1 m ft fw W1.heap.size (W1.heap.size + 1) D (fun z => left z && !z.sameKey (.int .u64 (y : Nat))) cnt2 (ss ++ [y]) k' g' W4 := fun W3 hb3 k' g' W4 hg4 hM4 hk' hp' => by
          have e3 := hb3.size
          have e4 := hg4.size
          have e2 := hg2.size
          refine ⟨?_, by simp; omega, hndy, hlty, hcnd, (hP2.step hb3).grown hg4 (by simp; omega) (by simp; omega) (by simp; omega), hM4, by simp; omega, hp', (hB2.trans (hb3.mono hB2.size)).grown hg4 (by have := hB2.size; omega) (fun k hk => by cases hk; exact hlowi), hbnr, by omega, hlowi, hnb⟩
          refine ranges_of_blocks hrg2 ((hg4.block bw (by omega) (by simp; omega)).trans (hb3.block bw (by omega))) ((hg4.block _ (by omega) (by simp)).trans (hb3.block _ (by omega)))
        have HTOO := Lib.hid htoo
        have HPK := Lib.hid hpick
        have HS64 := Lib.hid hs64
        have hrgl := hrg.left_eq
        have HRGL := Lib.hid hrgl
        have HLT2 := Lib.hid hlt2
        have HY64 := Lib.hid hy64
        have HB2 := Lib.hid hB2
        clear htoo hpick hs64 hrgl hlt2 hy64 hB2 hcnd hndy hlty hhy hny hat hlk hhas hatk hvl hown hrg hrg2 hg2 hs2 hI
        obtain ⟨q, hq, HQ⟩ : ∃ q, sibN y (rowsN n) = q ∧ Hid (sibN y (rowsN n) = q) := ⟨_, rfl, Lib.hid rfl⟩
        rw [hq] at cS
        have hP3 : ∀ W3, Below w2.heap.size w2 W3 → PlanIn n ts bp bt bw m1 m ft fw W3 := fun W3 hb => hP2.step hb
        have hM3 : ∀ W3, Below w2.heap.size w2 W3 → MapN W3 W1.heap.size k g := fun W3 hb => hM2.below hb hM2.lt
        have HP3 := Lib.hid hP3
        have HM3 := Lib.hid hM3
        clear hP3 hM3 hP2 hM2 hq
        cases hr : isRootB n y with
        | true =>
          rw [hr] at cI
          have HR := Lib.hid hr
          clear hr
          go_wp2_with ((with_reducible refine cI.mono ?_); rintro e W3 ⟨rfl, hb3⟩)
          go_roundw
          case rel => exact ⟨_, cnt2, ss ++ [y], k, g, HTOO.out W3 hb3 k g W3 (World.grownBy.refl _ _) (HM3.out W3 hb3) (by omega) (fun j hj => by rw [HPK.out j hj, pick_snoc]; simp [HR.out])⟩
          case measure => rw [(HTOO.out W3 hb3 k g W3 (World.grownBy.refl _ _) (HM3.out W3 hb3) (by omega) (fun j hj => by rw [HPK.out j hj, pick_snoc]; simp [HR.out])).rg.left_eq, HRGL.out]; exact HLT2.out
        | false =>
          rw [hr] at cI
          have HR := Lib.hid hr
          clear hr
          cases ho : onWaysB n ts q with
          | true =>
            have HO := Lib.hid ho
            clear ho
            go_wp2_with (first
              | ((with_reducible refine cI.mono ?_); rintro e W3 ⟨rfl, hb3⟩; have hP4 := HP3.out W3 hb3; obtain ⟨q0, q1, q2, q3⟩ := hP4.pl.fourC; have hl1 := hP4.ways.run_look q (by rw [← HQ.out]; exact HS64.out); obtain ⟨z, hz, hz0⟩ := look_pos ((hP4.onW q (by rw [← HQ.out]; exact HS64.out)).2 ((onWaysB_iff n ts q).1 HO.out)); rw [hz] at hl1; have hzn : ¬ ((z : Int) = 0) := (by omega); clear hz)
              | ((with_reducible refine (cS _).mono ?_); rintro e W4 ⟨rfl, rfl⟩))
            go_roundw
            case rel => exact ⟨_, cnt2, ss ++ [y], k, g, HTOO.out _ hb3 k g _ (World.grownBy.refl _ _) (HM3.out _ hb3) (by omega) (fun j hj => by rw [HPK.out j hj, pick_snoc, HQ.out]; simp [HO.out])⟩
            case measure => rw [(HTOO.out _ hb3 k g _ (World.grownBy.refl _ _) (HM3.out _ hb3) (by omega) (fun j hj => by rw [HPK.out j hj, pick_snoc, HQ.out]; simp [HO.out])).rg.left_eq, HRGL.out]; exact HLT2.out
          | false =>
            have HO := Lib.hid ho
            clear ho
            have hk50 : k ≤ 1125899906842 := by have := HL.out; omega
            have hgk : g q ≤ k := (HM3.out w2 (Below.refl _ _)).le q (by rw [← HQ.out]; exact HS64.out)
            obtain ⟨z, hz, HZ⟩ : ∃ z, g q = z ∧ Hid (g q = z) := ⟨_, rfl, Lib.hid rfl⟩
            rw [hz] at hgk
            obtain ⟨z1, hz1, HZ1⟩ : ∃ z1 : Nat, IntKind.i64.wrap ((z : Int) + 1) = (z1 : Int) ∧ Hid (z1 = z + 1) := ⟨z + 1, (IntWalk.i64_in _ (by omega)).trans (by omega), Lib.hid rfl⟩
            have HGK := Lib.hid hgk
            have HK50 := Lib.hid hk50
            clear hgk hk50 hz
            go_wp2_with (first
              | ((with_reducible refine cI.mono ?_); rintro e W3 ⟨rfl, hb3⟩; have hP4 := HP3.out W3 hb3; have hM4 := HM3.out W3 hb3; obtain ⟨q0, q1, q2, q3⟩ := hP4.pl.fourC; have hl1 := hP4.ways.run_look q (by rw [← HQ.out]; exact HS64.out); have hl2 := hM4.run_look q (by rw [← HQ.out]; exact HS64.out); rw [HZ.out] at hl2; have hz : fw q = 0 := (by have := mt (fun h => (onWaysB_iff n ts q).2 ((hP4.onW q (by rw [← HQ.out]; exact HS64.out)).1 h)) (by rw [HO.out]; decide); omega); rw [hz] at hl1; have hl1' : (Instr.lookup 98 (.map (some bw)) (.int .u64 (q : Nat)) false).run Try.prog W3 = .ok (.int .i64 0) W3 := hl1; clear hl1 hz)
              | ((with_reducible refine (cS _).mono ?_); rintro e W4 ⟨rfl, rfl⟩)
              | (at_mapUpdate; refine MapN.store hM4 q z1 (by rw [← HQ.out]; exact HS64.out) (by have := HZ1.out; omega) (by have := HZ1.out; have := HGK.out; omega) (by have := HK50.out; omega) rfl _ _ _ rfl rfl rfl rfl ?_; intro w5 hM5 hg5))
            have hpk5 : ∀ j, j < 2 ^ 64 → (0 < (if j = q then z1 else g j) ↔ PickN n ts (ss ++ [y]) j) := fun j hj => by
              rw [pick_snoc, HQ.out, ← HPK.out j hj]
              have := HZ1.out
              by_cases e : j = q
              · simp [e, HO.out, HR.out]; omega
              · simp [e]
            try go_frame
            go_roundw
            case rel =>
              exact ⟨_, cnt2, ss ++ [y], k + 1, _, HTOO.out _ hb3 (k + 1) _ _ hg5 hM5 (by omega) hpk5⟩
            case measure => rw [(HTOO.out _ hb3 (k + 1) _ _ hg5 hM5 (by omega) hpk5).rg.left_eq, HRGL.out]; exact HLT2.out
end Go.Proofs.Ytcfpgcejahfdfab

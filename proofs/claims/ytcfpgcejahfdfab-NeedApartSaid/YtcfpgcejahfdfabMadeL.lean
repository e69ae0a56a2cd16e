/- need.made: the second loop, over the targets' ways, by itself. -/
import Derived.Test.YtcfpgcejahfdfabMadeP
namespace Go.Proofs.Ytcfpgcejahfdfab
open Go.RowKit Go.Maps Go.Shelf
attribute [local go_sem] Oper.semAt_some
set_option linter.unusedVariables false
set_option linter.unusedSimpArgs false

/-- The block of a number in a function's body. -/
def blockOf (n : Nat) : Code → Option Code
  | .block i c => if i == n then some (.block i c) else blockOf n c
  | .seq a b => match blockOf n a with
    | some c => some c
    | none => blockOf n b
  | .scope c => blockOf n c
  | .loop c => blockOf n c
  | .cond _ a b => match blockOf n a with
    | some c => some c
    | none => blockOf n b
  | _ => none
noncomputable def madeBlock (n : Nat) : Code := ((Try.f46.body.bind (blockOf n)).getD .skip)

/-- Between two rounds of the inner range: a part of the k-th way has come. -/
structure InI (w : World) (n : Nat) (ts ds : List Nat) (k t b14 m1 m : Nat) (ft : Nat → Nat) (pre : List Nat) (W : World) : Prop where
  core : MK w n ds 0 W
  tg : MapN W (w.heap.size + 2) m1 ft
  ways : ∃ m' f', MapN W (w.heap.size + 3) m' f' ∧ m' ≤ m + pre.length ∧ Mid n ts k t pre f'
  bx : Blk W b14 #[.int .u64 (t : Nat)] 22
/-- How the inner range may be left ahead of its end. -/
inductive InX (w : World) (n : Nat) (ts ds : List Nat) (k m1 m : Nat) (ft : Nat → Nat) : Code → World → Prop
  | ret {W : World} (h1 : MK w n ds 2 W) (h2 : ¬ WaysOk n ts ts.length) : InX w n ts ds k m1 m ft .ret W
  | brk {W : World} (h1 : MK w n ds 0 W) (h2 : MapN W (w.heap.size + 2) m1 ft) (m' : Nat) (f' : Nat → Nat) (h3 : MapN W (w.heap.size + 3) m' f') (h4 : m' ≤ m + 66) (h5 : Between n ts (k + 1) f') : InX w n ts ds k m1 m ft (.exit 4) W

theorem InI.keeps {w : World} {n : Nat} {ts ds : List Nat} {k t b14 m1 m : Nat} {ft : Nat → Nat} {pre : List Nat} {A C : World} {B : Nat} (h : InI w n ts ds k t b14 m1 m ft pre A) (hk : Keeps B (fun _ => False) A C) (hB : w.heap.size ≤ B) (hd : ∀ D ∈ ds, D < B) : InI w n ts ds k t b14 m1 m ft pre C := by
  obtain ⟨m', f', h1, h2⟩ := h.ways
  exact ⟨h.core.keeps hk hB hd, h.tg.keeps hk, ⟨m', f', h1.keeps hk, h2⟩, hk.block h.bx rfl id⟩
theorem InX.keeps {w : World} {n : Nat} {ts ds : List Nat} {k m1 m : Nat} {ft : Nat → Nat} {c : Code} {A C : World} {B : Nat} (h : InX w n ts ds k m1 m ft c A) (hk : Keeps B (fun _ => False) A C) (hB : w.heap.size ≤ B) (hd : ∀ D ∈ ds, D < B) : InX w n ts ds k m1 m ft c C := by
  cases h with
  | ret h1 h2 => exact .ret (h1.keeps hk hB hd) h2
  | brk h1 h2 m' f' h3 h4 h5 => exact .brk (h1.keeps hk hB hd) (h2.keeps hk) m' f' (h3.keeps hk) h4 h5

/-- At the outer loop's head. -/
def MadeI (w : World) (n : Nat) (ts : List Nat) (len m1 k : Nat) (ft : Nat → Nat) (ds : List Nat) (W : World) : Prop :=
  k ≤ len ∧ ds.Nodup ∧ (∀ D ∈ ds, D < W.heap.size) ∧ MK w n ds 0 W ∧ MapN W (w.heap.size + 2) m1 ft ∧ ∃ m f, MapN W (w.heap.size + 3) m f ∧ m ≤ 70 * k ∧ Between n ts k f

/-- How the second loop is left. -/
def madeQ (n : Nat) (ts : List Nat) (a : Option Addr) (cap len : Nat) (w : World) (m1 : Nat) (ft : Nat → Nat) (x1 x2 x3 x6 x7 x9 x10 x11 x12 x13 x16 x17 x18 x19 x20 x21 x22 x23 x24 x25 x26 x27 x28 x29 x30 x31 x32 x33 x34 x35 x36 x37 x38 x39 x40 x41 x42 x43 x44 x45 x46 x47 x48 x49 x50 x51 x52 x53 x54 x55 x56 x57 x58 x59 x97 : Value) : Exit → Act → World → Prop := fun e a' W => match e with
  | .normal => ∃ u14 u15 u62 u63 u64 u65 u66 u67 u68 u69 u70 u71 u72 u73 u74 u75 u76 u77 u78 u79 u80 u81 u82 u83 u84 u85 u86 u87 u88 u89 u90 u91 u92 u93 u94 u95 u96 : Value, ∃ ds, MadeI w n ts len m1 len ft ds W ∧ a' = ⟨#[.int .u64 (n : Nat), x1, x2, x3, .pointer (some ⟨w.heap.size, 0, none⟩), .pointer (some ⟨w.heap.size + 1, 0, none⟩), x6, x7, .pointer (some ⟨w.heap.size + 5, 0, none⟩), x9, x10, x11, x12, x13, u14, u15, x16, x17, x18, x19, x20, x21, x22, x23, x24, x25, x26, x27, x28, x29, x30, x31, x32, x33, x34, x35, x36, x37, x38, x39, x40, x41, x42, x43, x44, x45, x46, x47, x48, x49, x50, x51, x52, x53, x54, x55, x56, x57, x58, x59, .slice a len cap, .int .i64 len, u62, u63, u64, u65, u66, u67, u68, u69, u70, u71, u72, u73, u74, u75, u76, u77, u78, u79, u80, u81, u82, u83, u84, u85, u86, u87, u88, u89, u90, u91, u92, u93, u94, u95, u96, x97], ds.map mk⟩
  | .ret => ∃ u14 u15 u62 u63 u64 u65 u66 u67 u68 u69 u70 u71 u72 u73 u74 u75 u76 u77 u78 u79 u80 u81 u82 u83 u84 u85 u86 u87 u88 u89 u90 u91 u92 u93 u94 u95 u96 : Value, ∃ ds, (ds.Nodup ∧ MK w n ds 2 W ∧ ¬ WaysOk n ts ts.length) ∧ a' = ⟨#[.int .u64 (n : Nat), x1, x2, x3, .pointer (some ⟨w.heap.size, 0, none⟩), .pointer (some ⟨w.heap.size + 1, 0, none⟩), x6, x7, .pointer (some ⟨w.heap.size + 5, 0, none⟩), x9, x10, x11, x12, x13, u14, u15, x16, x17, x18, x19, x20, x21, x22, x23, x24, x25, x26, x27, x28, x29, x30, x31, x32, x33, x34, x35, x36, x37, x38, x39, x40, x41, x42, x43, x44, x45, x46, x47, x48, x49, x50, x51, x52, x53, x54, x55, x56, x57, x58, x59, .slice a len cap, .int .i64 len, u62, u63, u64, u65, u66, u67, u68, u69, u70, u71, u72, u73, u74, u75, u76, u77, u78, u79, u80, u81, u82, u83, u84, u85, u86, u87, u88, u89, u90, u91, u92, u93, u94, u95, u96, x97], ds.map mk⟩
  | _ => False

set_option maxRecDepth 100000 in
set_option maxHeartbeats 4000000 in
theorem made2 (n : Nat) (ts : List Nat) (a : Option Addr) (cap len : Nat) (w X : World) (m1 : Nat) (ft : Nat → Nat) (hn : n < 2 ^ 64) (hts : ∀ t ∈ ts, t < 2 ^ 64) (hlen : Hid (ts.length = len)) (hl : (len : Int) ≤ 1125899906842624)
    (hcell : ∀ k x, ts[k]? = some x → ∃ g off, a = some ⟨g, off, none⟩ ∧ ∀ W', Below w.heap.size w W' → W'.cell? ⟨g, off + k, none⟩ = some (uv x))
    (hft : ∀ j, j < 2 ^ 64 → (0 < ft j ↔ j ∈ ts)) (hI0 : MadeI w n ts len m1 0 ft [] X) (x1 x2 x3 x6 x7 x9 x10 x11 x12 x13 x14 x15 x16 x17 x18 x19 x20 x21 x22 x23 x24 x25 x26 x27 x28 x29 x30 x31 x32 x33 x34 x35 x36 x37 x38 x39 x40 x41 x42 x43 x44 x45 x46 x47 x48 x49 x50 x51 x52 x53 x54 x55 x56 x57 x58 x59 x63 x64 x65 x66 x67 x68 x69 x70 x71 x72 x73 x74 x75 x76 x77 x78 x79 x80 x81 x82 x83 x84 x85 x86 x87 x88 x89 x90 x91 x92 x93 x94 x95 x96 x97 : Value) :
    Code.wp Try.prog (madeBlock 2) (madeQ n ts a cap len w m1 ft x1 x2 x3 x6 x7 x9 x10 x11 x12 x13 x16 x17 x18 x19 x20 x21 x22 x23 x24 x25 x26 x27 x28 x29 x30 x31 x32 x33 x34 x35 x36 x37 x38 x39 x40 x41 x42 x43 x44 x45 x46 x47 x48 x49 x50 x51 x52 x53 x54 x55 x56 x57 x58 x59 x97) ⟨#[.int .u64 (n : Nat), x1, x2, x3, .pointer (some ⟨w.heap.size, 0, none⟩), .pointer (some ⟨w.heap.size + 1, 0, none⟩), x6, x7, .pointer (some ⟨w.heap.size + 5, 0, none⟩), x9, x10, x11, x12, x13, x14, x15, x16, x17, x18, x19, x20, x21, x22, x23, x24, x25, x26, x27, x28, x29, x30, x31, x32, x33, x34, x35, x36, x37, x38, x39, x40, x41, x42, x43, x44, x45, x46, x47, x48, x49, x50, x51, x52, x53, x54, x55, x56, x57, x58, x59, .slice a len cap, .int .i64 len, .int .i64 0, x63, x64, x65, x66, x67, x68, x69, x70, x71, x72, x73, x74, x75, x76, x77, x78, x79, x80, x81, x82, x83, x84, x85, x86, x87, x88, x89, x90, x91, x92, x93, x94, x95, x96, x97], []⟩ X := by
  conv => arg 2; whnf
  go_wp2_with fail
  refine wp_loop (fun a' W => ∃ u14 u15 u63 u64 u65 u66 u67 u68 u69 u70 u71 u72 u73 u74 u75 u76 u77 u78 u79 u80 u81 u82 u83 u84 u85 u86 u87 u88 u89 u90 u91 u92 u93 u94 u95 u96 : Value, ∃ k ds, MadeI w n ts len m1 k ft ds W ∧ a' = ⟨#[.int .u64 (n : Nat), x1, x2, x3, .pointer (some ⟨w.heap.size, 0, none⟩), .pointer (some ⟨w.heap.size + 1, 0, none⟩), x6, x7, .pointer (some ⟨w.heap.size + 5, 0, none⟩), x9, x10, x11, x12, x13, u14, u15, x16, x17, x18, x19, x20, x21, x22, x23, x24, x25, x26, x27, x28, x29, x30, x31, x32, x33, x34, x35, x36, x37, x38, x39, x40, x41, x42, x43, x44, x45, x46, x47, x48, x49, x50, x51, x52, x53, x54, x55, x56, x57, x58, x59, .slice a len cap, .int .i64 len, .int .i64 (k : Nat), u63, u64, u65, u66, u67, u68, u69, u70, u71, u72, u73, u74, u75, u76, u77, u78, u79, u80, u81, u82, u83, u84, u85, u86, u87, u88, u89, u90, u91, u92, u93, u94, u95, u96, x97], ds.map mk⟩)
    (fun a' _ => len - (intOf (a'.tmps.getD 62 undef)).toNat) ⟨_, _, _, _, _, _, _, _, _, _, _, _, _, _, _, _, _, _, _, _, _, _, _, _, _, _, _, _, _, _, _, _, _, _, _, _, 0, [], hI0, rfl⟩ ?_
  rintro a' W ⟨u14, u15, u63, u64, u65, u66, u67, u68, u69, u70, u71, u72, u73, u74, u75, u76, u77, u78, u79, u80, u81, u82, u83, u84, u85, u86, u87, u88, u89, u90, u91, u92, u93, u94, u95, u96, k, ds, hI, rfl⟩
  have hI' := hI
  obtain ⟨hk, hnd, hds, hK, hT, m, f, hW, hm, hb⟩ := hI
  clear hI0
  by_cases hlt : k < len
  case neg =>
    obtain rfl : k = len := by omega
    clear hlt
    go_wp2_with fail
    exact ⟨_, _, _, _, _, _, _, _, _, _, _, _, _, _, _, _, _, _, _, _, _, _, _, _, _, _, _, _, _, _, _, _, _, _, _, _, _, ds, hI', rfl⟩
  clear hI'
  have hkl : k < ts.length := by rw [hlen.out]; exact hlt
  obtain ⟨t, ht⟩ : ∃ t, ts[k]? = some t := ⟨_, List.getElem?_eq_getElem hkl⟩
  have ht64 : t < 2 ^ 64 := hts t (List.mem_of_getElem? ht)
  obtain ⟨g, off, rfl, hc⟩ := hcell k t ht
  have hct := hc W hK.below
  unfold uv at hct
  have HC := Lib.hid hc
  have HT := Lib.hid ht
  have HTS := Lib.hid hts
  have HFT := Lib.hid hft
  have HDS := Lib.hid hds
  have HN := Lib.hid hn
  have Ht64 := Lib.hid ht64
  have HCELL := Lib.hid hcell
  clear hc ht hts hft hds hcell
  have cU := fun w => needUp_any n t w hn ht64
  clear hn ht64 hkl
  have hsz := hK.size
  go_wp2_with ((with_reducible refine (cU _).mono ?_); rintro e W1 ⟨bs, v, rfl, hbs0, hbs1, hbc, hsl, hvo, hb1⟩; clear cU)
  have hK1 : MK w n ds 0 W1 := (hK.alloc (.cells #[.int .u64 (t : Nat)] 22)).step hb1
  have hT1 : MapN W1 (w.heap.size + 2) m1 ft := hT.alloc.below hb1 (by have := hT.lt; simp; omega)
  have hW1 : MapN W1 (w.heap.size + 3) m f := hW.alloc.below hb1 (by have := hW.lt; simp; omega)
  have k14 : Blk W1 W.heap.size #[.int .u64 (t : Nat)] 22 := (Blk.new W _ _).below hb1 (by simp)
  have hs1 := hb1.size
  simp only [World.size_alloc] at hs1
  have hds1 : ∀ D ∈ ds, D < W1.heap.size := fun D hD => by have := HDS.out D hD; omega
  have hb14 : W.heap.size < W1.heap.size := by omega
  refine range_law (encs := fun x : Nat => #[.int .u64 (x : Int)]) (own := fun _ => False) (rd := fun b => b = bs ∨ v.ownBlock = some b) (xs := wayN n t) rfl values_enters (fun _ h => h.elim)
    (by rintro b (rfl | h); exact hbs1; exact hsl.own_lt _ h) (values_iter v (wayN n t) bs W1 hbs1 hbc hsl) (fun _ => rfl) (InI w n ts ds k t W.heap.size m1 m ft) (fun c _ W' => InX w n ts ds k m1 m ft c W')
    (fun s A C h hk => h.keeps hk (by omega) hds1) (fun c s A C h hk => h.keeps hk (by omega) hds1) ⟨hK1, hT1, ⟨m, f, hW1, by simp, hb.mid⟩, k14⟩ ?round ?done ?stop
  case round =>
    intro l pre x W2 hl2 hpre hI2
    gi_wp2
    refine ⟨trivial, ?_⟩
    clear hI2 W2 hl2
    intro W2 _ hI2
    obtain ⟨hK2, hT2, ⟨m', f', hW2, hm2, hmid⟩, kb⟩ := hI2
    have hxw : x ∈ wayN n t := hpre.subset (by simp)
    have hx64 : x < 2 ^ 64 := way_mem_lt n t Ht64.out x hxw
    have hpl : pre.length ≤ 64 := by have := hpre.length_le; have := wayN_len n t; simp at *; omega
    have hle := hW2.le x hx64
    have hrd : ∀ b, b < W.heap.size + 1 → ¬ (b = bs ∨ v.ownBlock = some b) := by
      rintro b hb (rfl | h)
      · simp at hbs0; omega
      · have := hvo b h; simp at this; omega
    obtain ⟨p5, -⟩ := hK2.px.one
    obtain ⟨p0, p1, p2, p3⟩ := hK2.pl.fourC
    obtain ⟨pt, -⟩ := kb.one
    obtain ⟨y4, z4⟩ := hK2.c4.one
    obtain ⟨y5, z5⟩ := hK2.c5.one
    have hl1 := hT2.run_look x hx64
    have hl2 := hW2.run_look x hx64
    have hm3 : m' ≤ 1125899906842624 * 70 + 70 := by omega
    have HP := Lib.hid hpre
    have HM := Lib.hid hm2
    have HMID := Lib.hid hmid
    have HX := Lib.hid hx64
    have HXW := Lib.hid hxw
    have HRD := Lib.hid hrd
    clear hpre hm2 hmid hx64 hxw hrd
    by_cases hv : x ≠ t ∧ x ∈ ts
    · obtain ⟨hne, hmem⟩ := hv
      have q1 : 0 < ft x := (HFT.out x HX.out).2 hmem
      obtain ⟨q, hq⟩ : ∃ q, ft x = q := ⟨_, rfl⟩
      rw [hq] at hl1 q1
      have q2 : (0 : Int) < (q : Int) := by omega
      have e1 : ((x : Int) == (t : Int)) = false := by simp; omega
      have e2 : ((x : Int) != (t : Int)) = true := by simp; omega
      have HNE := Lib.hid hne
      clear hne hq q1 hle
      gi_wp2
      exact ⟨(Round.setCell _ _ _ ⟨w.heap.size, 0, none⟩ _ (HRD.out _ (by simp; omega))).trans (Round.setCell _ _ _ ⟨w.heap.size + 1, 0, none⟩ _ (HRD.out _ (by simp; omega))), .ret hK2.refuse (Mid.fall HT.out HXW.out HNE.out hmem)⟩
    · have hok : x ≠ t → x ∉ ts := fun a b => hv ⟨a, b⟩
      obtain ⟨c, hc⟩ : ∃ c, f' x = c := ⟨_, rfl⟩
      rw [hc] at hl2 hle
      obtain ⟨y, hy, hyc⟩ : ∃ y : Nat, (c : Int) + 1 = (y : Int) ∧ Hid (y = c + 1) := ⟨c + 1, by omega, rfl⟩
      have c0 : (0 : Int) ≤ (c : Int) := by omega
      have c1 : (c : Int) ≤ 1125899906842624 * 70 + 70 := by omega
      have hyp : 0 < y := by have := hyc.out; omega
      have hyn : y ≤ m' + 1 := by have := hyc.out; omega
      have hm4 : m' < 2 ^ 62 := by omega
      have HOK := Lib.hid hok
      have HCF := Lib.hid hc
      have HY1 := Lib.hid hyp
      have HY2 := Lib.hid hyn
      have HY3 := Lib.hid hm4
      have hz : (x = t) ∨ (x ≠ t ∧ ft x = 0) := by
        by_cases e : x = t
        · exact .inl e
        · exact .inr ⟨e, by have := mt (HFT.out x HX.out).1 (hok e); omega⟩
      have hz2 : c = 0 ∨ 0 < c := by omega
      clear hok hc hv hle hyp hyn hm4 hm3
      have ey : Hid (y = f' x + 1) := Lib.hid (by rw [hyc.out, HCF.out])
      have hl3 : ∀ w1, MapN w1 (w.heap.size + 3) (m' + 1) (fun j => if j = x then y else f' j) → (Instr.lookup 98 (.map (some (w.heap.size + 3))) (.int .u64 (x : Nat)) false).run Try.prog w1 = .ok (.int .i64 (y : Nat)) w1 := fun w1 h => by
        have h := h.run_look x HX.out
        rw [if_pos (rfl : x = x)] at h
        exact h
      have HL3 := Lib.hid hl3
      clear hl3
      have fin : ∀ w1, W2.grownBy w1 (some (w.heap.size + 3)) → MK w n ds 0 w1 ∧ MapN w1 (w.heap.size + 2) m1 ft ∧ Blk w1 W.heap.size #[.int .u64 (t : Nat)] 22 ∧ Round W1.heap.size (fun b => b = bs ∨ v.ownBlock = some b) W2 w1 := fun w1 hg1 =>
        ⟨hK2.grown hg1 (.inr rfl), hT2.grown hg1 (by simp), kb.grown hg1 (by simp; omega), Round.grown _ _ hg1 fun k hk => by cases hk; exact ⟨HRD.out _ (by omega), .inl (by omega)⟩⟩
      have FIN := Lib.hid fin
      clear fin
      rcases hz with hz | ⟨hz, hq⟩
      · have e1 : ((x : Int) == (t : Int)) = true := by simp; omega
        have e2 : ((x : Int) != (t : Int)) = false := by simp; omega
        clear hz hl1
        rcases hz2 with hz2 | hz2
        · have yb : (y : Int) ≤ 1 := by have := hyc.out; omega
          have HZ2 := Lib.hid hz2
          clear hz2
          gi_wp2_with (gi_at_mapUpdate; refine MapN.storeIn hW2 x y HX.out HY1.out HY2.out HY3.out rfl _ _ _ rfl rfl rfl rfl ?_; intro w1 hM1 hg1; have hl3 := HL3.out w1 hM1; obtain ⟨hKw, hTw, kbw, hRw⟩ := FIN.out w1 hg1; obtain ⟨r5, -⟩ := hKw.px.one; obtain ⟨r0, r1, r2, r3⟩ := hKw.pl.fourC)
          (have hmid2 := HMID.out.step HX.out (by rw [HCF.out]; exact HZ2.out) HOK.out; rw [← ey.out] at hmid2; exact ⟨hRw, hKw, hTw, ⟨m' + 1, _, hM1, by have := HM.out; simp; omega, hmid2⟩, kbw⟩)
        · have yb : (1 : Int) < (y : Int) := by have := hyc.out; omega
          have HZ2 := Lib.hid hz2
          clear hz2
          gi_wp2_with (gi_at_mapUpdate; refine MapN.storeIn hW2 x y HX.out HY1.out HY2.out HY3.out rfl _ _ _ rfl rfl rfl rfl ?_; intro w1 hM1 hg1; have hl3 := HL3.out w1 hM1; obtain ⟨hKw, hTw, kbw, hRw⟩ := FIN.out w1 hg1; obtain ⟨r5, -⟩ := hKw.px.one; obtain ⟨r0, r1, r2, r3⟩ := hKw.pl.fourC)
          (have hb2 := Mid.stop hb.fine HT.out HMID.out HX.out (by rw [HCF.out]; exact HZ2.out) HOK.out HP.out; rw [← ey.out] at hb2; exact ⟨hRw, .brk hKw hTw (m' + 1) _ hM1 (by have := HM.out; omega) hb2⟩)
      · have e1 : ((x : Int) == (t : Int)) = false := by simp; omega
        have e2 : ((x : Int) != (t : Int)) = true := by simp; omega
        rw [hq] at hl1
        have hl1' : (Instr.lookup 98 (.map (some (w.heap.size + 2))) (.int .u64 (x : Nat)) false).run Try.prog W2 = .ok (.int .i64 0) W2 := hl1
        clear hz hq hl1
        rcases hz2 with hz2 | hz2
        · have yb : (y : Int) ≤ 1 := by have := hyc.out; omega
          have HZ2 := Lib.hid hz2
          clear hz2
          gi_wp2_with (gi_at_mapUpdate; refine MapN.storeIn hW2 x y HX.out HY1.out HY2.out HY3.out rfl _ _ _ rfl rfl rfl rfl ?_; intro w1 hM1 hg1; have hl3 := HL3.out w1 hM1; obtain ⟨hKw, hTw, kbw, hRw⟩ := FIN.out w1 hg1; obtain ⟨r5, -⟩ := hKw.px.one; obtain ⟨r0, r1, r2, r3⟩ := hKw.pl.fourC)
          (have hmid2 := HMID.out.step HX.out (by rw [HCF.out]; exact HZ2.out) HOK.out; rw [← ey.out] at hmid2; exact ⟨hRw, hKw, hTw, ⟨m' + 1, _, hM1, by have := HM.out; simp; omega, hmid2⟩, kbw⟩)
        · have yb : (1 : Int) < (y : Int) := by have := hyc.out; omega
          have HZ2 := Lib.hid hz2
          clear hz2
          gi_wp2_with (gi_at_mapUpdate; refine MapN.storeIn hW2 x y HX.out HY1.out HY2.out HY3.out rfl _ _ _ rfl rfl rfl rfl ?_; intro w1 hM1 hg1; have hl3 := HL3.out w1 hM1; obtain ⟨hKw, hTw, kbw, hRw⟩ := FIN.out w1 hg1; obtain ⟨r5, -⟩ := hKw.px.one; obtain ⟨r0, r1, r2, r3⟩ := hKw.pl.fourC)
          (have hb2 := Mid.stop hb.fine HT.out HMID.out HX.out (by rw [HCF.out]; exact HZ2.out) HOK.out HP.out; rw [← ey.out] at hb2; exact ⟨hRw, .brk hKw hTw (m' + 1) _ hM1 (by have := HM.out; omega) hb2⟩)
  case done =>
    intro D W2 hD hI2 hKD
    obtain ⟨hK2, hT2, ⟨m', f', hW2, hm2, hmid⟩, kb⟩ := hI2
    have hnw : D ∉ ds := fun h => by have := hds1 D h; omega
    have hwl := wayN_len n t
    have hDl := (Array.getElem?_eq_some_iff.1 hKD).1
    have hsz2 := hK2.size
    go_wp2_with fail
    refine ⟨⟨_, _, _, _, _, _, _, _, _, _, _, _, _, _, _, _, _, _, _, _, _, _, _, _, _, _, _, _, _, _, _, _, _, _, _, _, k + 1, D :: ds, ⟨by omega, List.nodup_cons.2 ⟨hnw, hnd⟩, ?_, hK2.more hKD (by omega), hT2, m', f', hW2, by omega, Mid.done hb.fine HT.out hmid⟩, rfl⟩, by simp [intOf]; omega⟩
    intro E hE
    rcases List.mem_cons.1 hE with e | hE
    · rw [e]; exact hDl
    · have := hds1 E hE; omega
  case stop =>
    intro D c pre W2 hD hpre hX hKD
    have hnw : D ∉ ds := fun h => by have := hds1 D h; omega
    have hDl := (Array.getElem?_eq_some_iff.1 hKD).1
    cases hX with
    | ret h1 h2 =>
      go_wp2_with fail
      exact ⟨_, _, _, _, _, _, _, _, _, _, _, _, _, _, _, _, _, _, _, _, _, _, _, _, _, _, _, _, _, _, _, _, _, _, _, _, _, D :: ds, ⟨List.nodup_cons.2 ⟨hnw, hnd⟩, h1.more hKD (by omega), h2⟩, rfl⟩
    | brk h1 h2 m' f' h3 h4 h5 =>
      go_wp2_with fail
      refine ⟨⟨_, _, _, _, _, _, _, _, _, _, _, _, _, _, _, _, _, _, _, _, _, _, _, _, _, _, _, _, _, _, _, _, _, _, _, _, k + 1, D :: ds, ⟨by omega, List.nodup_cons.2 ⟨hnw, hnd⟩, ?_, h1.more hKD (by omega), h2, m', f', h3, by omega, h5⟩, rfl⟩, by simp [intOf]; omega⟩
      intro E hE
      rcases List.mem_cons.1 hE with e | hE
      · rw [e]; exact hDl
      · have := hds1 E hE; omega
end Go.Proofs.Ytcfpgcejahfdfab

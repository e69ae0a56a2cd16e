/- Moved positions: the plain law of NeedApart. No program. -/
import Derived.Test.YtcfpgcejahfdfabApartM
namespace Go.Proofs.Ytcfpgcejahfdfab
open Go.Lib
set_option linter.unusedVariables false
set_option linter.unusedSimpArgs false

theorem within_pos {R r1 o1 r2 o2 : Nat} (hR : R ≤ 63) (h1 : r1 ≤ R) (h2 : r2 ≤ R) (b1 : o1 < 2 ^ (R - r1)) (b2 : o2 < 2 ^ (R - r2)) : withinN (posN R r1 o1) (posN R r2 o2) R = true ↔ (r1 < r2 ∧ Bel (r1, o1) (r2, o2)) := by
  obtain ⟨x1, x2, x3, x4⟩ := posN_is R r1 o1 hR h1 b1
  obtain ⟨y1, y2, y3, y4⟩ := posN_is R r2 o2 hR h2 b2
  have e1 : posN R r1 o1 - beginN r1 R = o1 := by unfold posN; omega
  have e2 : posN R r2 o2 - beginN r2 R = o2 := by unfold posN; omega
  unfold withinN
  rw [x1, y1, x2, y2, e1, e2]
  simp [Bel]
  omega

/-- Rows where two ways part. -/
theorem part_row {ra oa rb ob h : Nat} (ha : ra ≤ h) (hb : rb ≤ h) (htop : oa / 2 ^ (h - ra) = ob / 2 ^ (h - rb)) (hn1 : ¬ Bel (ra, oa) (rb, ob)) (hn2 : ¬ Bel (rb, ob) (ra, oa)) :
    ∃ s, s < h ∧ ra ≤ s ∧ rb ≤ s ∧ oa / 2 ^ (s - ra) ≠ ob / 2 ^ (s - rb) ∧ oa / 2 ^ (s + 1 - ra) = ob / 2 ^ (s + 1 - rb) := by
  have key : ∀ e, e ≤ h → ra ≤ h - e → rb ≤ h - e → (∃ s, s < h ∧ ra ≤ s ∧ rb ≤ s ∧ oa / 2 ^ (s - ra) ≠ ob / 2 ^ (s - rb) ∧ oa / 2 ^ (s + 1 - ra) = ob / 2 ^ (s + 1 - rb)) ∨ oa / 2 ^ (h - e - ra) = ob / 2 ^ (h - e - rb) := by
    intro e
    induction e with
    | zero => intro _ _ _; exact .inr (by simpa using htop)
    | succ e ih =>
      intro he h1 h2
      rcases ih (by omega) (by omega) (by omega) with k | k
      · exact .inl k
      · by_cases c : oa / 2 ^ (h - (e + 1) - ra) = ob / 2 ^ (h - (e + 1) - rb)
        · exact .inr c
        · exact .inl ⟨h - (e + 1), by omega, h1, h2, c, by rw [show h - (e + 1) + 1 = h - e by omega]; exact k⟩
  rcases Nat.le_total ra rb with hle | hle
  · rcases key (h - rb) (by omega) (by omega) (by omega) with h | h'
    · exact h
    · refine absurd ⟨hle, ?_⟩ hn1
      rw [show h - (h - rb) - ra = rb - ra by omega, show h - (h - rb) - rb = 0 by omega] at h'
      simpa using h'
  · rcases key (h - ra) (by omega) (by omega) (by omega) with h | h'
    · exact h
    · refine absurd ⟨hle, ?_⟩ hn2
      rw [show h - (h - ra) - rb = ra - rb by omega, show h - (h - ra) - ra = 0 by omega] at h'
      simpa using h'.symm

theorem twins_apart {X : Nat × Nat} {r o p q : Nat} (hp : p < 2) (hq : q < 2) (h1 : Bel X (r, 2 * o + p)) (h2 : Bel X (r, 2 * o + q)) : p = q := by
  have a := h1.2
  have b := h2.2
  simp only at a b
  omega

theorem apart_one {n h ra oa rb ob : Nat} {ts : List Nat} (hok : rowsOk n = true) (hA : Und n ra oa h) (hB : Und n rb ob h) (boa : oa < 2 ^ (rowsN n - ra)) (bob : ob < 2 ^ (rowsN n - rb))
    (ga : goneB n ts (posN (rowsN n) ra oa) = false) (gb : goneB n ts (posN (rowsN n) rb ob) = false) (hn1 : ¬ Bel (ra, oa) (rb, ob)) (hn2 : ¬ Bel (rb, ob) (ra, oa)) :
    ¬ Bel (mvd n ts (h - ra) ra oa) (mvd n ts (h - rb) rb ob) := by
  have hR := rowsN_le n
  obtain ⟨s, hs, sa, sb, hne, heq⟩ := part_row hA.1 hB.1 (hA.2.2.2.trans hB.2.2.2.symm) hn1 hn2
  have hsR : s < rowsN n := by have := hA.2.1; omega
  have ea := not_gone_up hok hA boa ga (s - ra) (by omega)
  have eb := not_gone_up hok hB bob gb (s - rb) (by omega)
  rw [show ra + (s - ra) = s by omega] at ea
  rw [show rb + (s - rb) = s by omega] at eb
  have bu : oa / 2 ^ (s - ra) < 2 ^ (rowsN n - s) := by
    rw [Nat.div_lt_iff_lt_mul (Nat.two_pow_pos _), ← Nat.pow_add, show rowsN n - s + (s - ra) = rowsN n - ra by omega]; exact boa
  have bv : ob / 2 ^ (s - rb) < 2 ^ (rowsN n - s) := by
    rw [Nat.div_lt_iff_lt_mul (Nat.two_pow_pos _), ← Nat.pow_add, show rowsN n - s + (s - rb) = rowsN n - rb by omega]; exact bob
  have eu : oa / 2 ^ (s + 1 - ra) = oa / 2 ^ (s - ra) / 2 := by rw [show oa / 2 ^ (s - ra) / 2 = oa / 2 ^ (s - ra) / 2 ^ 1 by simp, div_up, show s - ra + 1 = s + 1 - ra by omega]
  have ev : ob / 2 ^ (s + 1 - rb) = ob / 2 ^ (s - rb) / 2 := by rw [show ob / 2 ^ (s - rb) / 2 = ob / 2 ^ (s - rb) / 2 ^ 1 by simp, div_up, show s - rb + 1 = s + 1 - rb by omega]
  rw [eu, ev] at heq
  have ua := mvd_up n ts (s - ra) (h - s) ra oa
  have ub := mvd_up n ts (s - rb) (h - s) rb ob
  rw [show h - s + (s - ra) = h - ra by omega, show ra + (s - ra) = s by omega] at ua
  rw [show h - s + (s - rb) = h - rb by omega, show rb + (s - rb) = s by omega] at ub
  generalize oa / 2 ^ (s - ra) = u at *
  generalize ob / 2 ^ (s - rb) = v at *
  obtain ⟨d, hd⟩ : ∃ d, h - s = d + 1 := ⟨h - s - 1, by omega⟩
  rw [hd] at ua ub
  have su := (sib_at (rowsN n) s u hR hsR bu).1
  have sv := (sib_at (rowsN n) s v hR hsR bv).1
  have hsu : sibN (posN (rowsN n) s u) (rowsN n) = posN (rowsN n) s v := by
    rw [su]; congr 1
    split <;> omega
  have hsv : sibN (posN (rowsN n) s v) (rowsN n) = posN (rowsN n) s u := by
    rw [sv]; congr 1
    split <;> omega
  rw [mvd, hsu, eb] at ua
  rw [mvd, hsv, ea] at ub
  simp only [Bool.false_eq_true, if_false] at ua ub
  rw [← heq] at ub
  intro hc
  have := twins_apart (Nat.mod_lt _ (by decide)) (Nat.mod_lt _ (by decide)) ua (hc.trans ub)
  omega

/-- The plain law. -/
theorem apart_law {n a b : Nat} {ts : List Nat} (ha : treeOk n a = true) (hb : treeOk n b = true) (ga : goneB n ts a = false) (gb : goneB n ts b = false) :
    treeOk n (movedN n ts a) = true ∧ treeN n (movedN n ts a) = treeN n a ∧
    (withinN a b (rowsN n) = true → movedN n ts a = movedN n ts b ∨ withinN (movedN n ts a) (movedN n ts b) (rowsN n) = true) ∧
    (a ≠ b → withinN a b (rowsN n) = false → withinN b a (rowsN n) = false → movedN n ts a ≠ movedN n ts b ∧ withinN (movedN n ts a) (movedN n ts b) (rowsN n) = false) := by
  have hR := rowsN_le n
  obtain ⟨ra, oa, h, hok, rfl, ra1, oa1, hA⟩ := tree_und ha
  obtain ⟨rb, ob, h', _, rfl, rb1, ob1, hB⟩ := tree_und hb
  obtain ⟨ma, ma2, ma3⟩ := moved_is (ts := ts) hok (h - ra) ra oa rfl hA oa1
  obtain ⟨mb, mb2, mb3⟩ := moved_is (ts := ts) hok (h' - rb) rb ob rfl hB ob1
  have top : ∀ {r o h}, Und n r o h → Und n h (o / 2 ^ (h - r)) h := fun {r o h} hU => ⟨Nat.le_refl _, hU.2.1, hU.2.2.1, by simpa using hU.2.2.2⟩
  have hMA := Und.bel ma2 (top hA)
  have hMB := Und.bel mb2 (top hB)
  have rma : (mvd n ts (h - ra) ra oa).1 ≤ rowsN n := by have := hMA.1; have := hMA.2.1; omega
  have rmb : (mvd n ts (h' - rb) rb ob).1 ≤ rowsN n := by have := hMB.1; have := hMB.2.1; omega
  rw [ma, mb]
  refine ⟨und_tree hok hMA ma3, by rw [und_treeN hok hMA ma3, und_treeN hok hA oa1], fun hw => ?_, fun hne hw1 hw2 => ?_⟩
  · obtain ⟨hlt, hbel⟩ := (within_pos hR ra1 rb1 oa1 ob1).1 hw
    have hAB : Und n ra oa h' := Und.bel hbel hB
    obtain rfl := hA.one hAB
    have hm := mvd_up n ts (rb - ra) (h - rb) ra oa
    have e2 : oa / 2 ^ (rb - ra) = ob := hbel.2
    rw [show h - rb + (rb - ra) = h - ra by have := hB.1; omega, show ra + (rb - ra) = rb by omega, e2] at hm
    by_cases c : (mvd n ts (h - ra) ra oa).1 = (mvd n ts (h - rb) rb ob).1
    · left
      have := hm.2
      rw [c, Nat.sub_self, Nat.pow_zero, Nat.div_one] at this
      rw [c, this]
    · right
      exact (within_pos hR rma rmb ma3 mb3).2 ⟨by have := hm.1; omega, hm⟩
  · have n1 : ¬ Bel (ra, oa) (rb, ob) := fun hbel => by
      by_cases c : ra = rb
      · have := hbel.2
        simp only [c, Nat.sub_self, Nat.pow_zero, Nat.div_one] at this
        exact hne (by rw [c, this])
      · have := (within_pos hR ra1 rb1 oa1 ob1).2 ⟨by have := hbel.1; simp only at this; omega, hbel⟩
        rw [this] at hw1; cases hw1
    have n2 : ¬ Bel (rb, ob) (ra, oa) := fun hbel => by
      by_cases c : rb = ra
      · have := hbel.2
        simp only [c, Nat.sub_self, Nat.pow_zero, Nat.div_one] at this
        exact hne (by rw [c, this])
      · have := (within_pos hR rb1 ra1 ob1 oa1).2 ⟨by have := hbel.1; simp only at this; omega, hbel⟩
        rw [this] at hw2; cases hw2
    have n3 : ¬ Bel (mvd n ts (h - ra) ra oa) (mvd n ts (h' - rb) rb ob) := fun hbel => by
      obtain rfl : h = h' := hMA.one (Und.bel hbel hMB)
      exact apart_one hok hA hB oa1 ob1 ga gb n1 n2 hbel
    refine ⟨fun he => ?_, ?_⟩
    · obtain ⟨x1, x2, x3, x4⟩ := posN_is (rowsN n) _ _ hR rma ma3
      obtain ⟨y1, y2, y3, y4⟩ := posN_is (rowsN n) _ _ hR rmb mb3
      rw [he] at x2 x3
      refine n3 (?_)
      rw [Prod.ext (x2.symm.trans y2) (x3.symm.trans y3)]
      exact Bel.rfl' _
    · cases hc : withinN _ _ (rowsN n) with
      | false => rfl
      | true => exact absurd ((within_pos hR rma rmb ma3 mb3).1 hc).2 n3
end Go.Proofs.Ytcfpgcejahfdfab

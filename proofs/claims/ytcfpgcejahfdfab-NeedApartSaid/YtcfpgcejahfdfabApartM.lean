/- Ways in rows and offsets; moved positions lie apart. No program. -/
import Derived.Test.YtcfpgcejahfdfabTreeM
import Derived.Test.YtcfpgcejahfdfabMovedW
namespace Go.Proofs.Ytcfpgcejahfdfab
open Go.Lib
set_option linter.unusedVariables false
set_option linter.unusedSimpArgs false

theorem n_le_pow {n : Nat} (h : rowsOk n = true) : n ≤ 2 ^ rowsN n := by
  have h1 : n ≤ 9223372036854775807 := by simpa [rowsOk] using h
  unfold rowsN
  rw [if_pos h1]
  by_cases h0 : n - 1 = 0
  · rw [h0, bl_zero]; omega
  · have := (bl_bounds (n - 1) (by omega) h0).2.2; omega

/-- The position of a row and an offset lies below the root of height h. -/
def Und (n r o h : Nat) : Prop := r ≤ h ∧ h ≤ rowsN n ∧ n / 2 ^ h % 2 = 1 ∧ o / 2 ^ (h - r) = n / 2 ^ h - 1

theorem div_up (o a b : Nat) : o / 2 ^ a / 2 ^ b = o / 2 ^ (a + b) := by rw [Nat.pow_add, Nat.div_div_eq_div_mul]

theorem odd_down {n r h : Nat} (hr : r < h) (h1 : n / 2 ^ r % 2 = 1) (h2 : n / 2 ^ h % 2 = 1) : (n / 2 ^ r - 1) / 2 ^ (h - r) ≠ n / 2 ^ h - 1 := by
  obtain ⟨d, rfl⟩ : ∃ d, h = r + (d + 1) := ⟨h - r - 1, by omega⟩
  have e1 : (n / 2 ^ r - 1) / 2 ^ (d + 1) = n / 2 ^ (r + (d + 1)) := by
    rw [← div_up n r (d + 1), show d + 1 = 1 + d by omega, ← div_up _ 1 d, ← div_up _ 1 d, Nat.pow_one]
    clear h2
    generalize n / 2 ^ r = m at h1 ⊢
    rw [show (m - 1) / 2 = m / 2 by omega]
  rw [show r + (d + 1) - r = d + 1 by omega, e1]
  omega

theorem Und.one {n r o h h' : Nat} (a : Und n r o h) (b : Und n r o h') : h = h' := by
  have key : ∀ {h h'}, Und n r o h → Und n r o h' → h < h' → False := fun {h h'} a b hlt => by
    refine odd_down hlt a.2.2.1 b.2.2.1 ?_
    rw [← a.2.2.2, div_up, ← b.2.2.2, show h - r + (h' - h) = h' - r by have := a.1; omega]
  rcases Nat.lt_trichotomy h h' with c | c | c
  · exact (key a b c).elim
  · exact c
  · exact (key b a c).elim

theorem Und.up {n r o h : Nat} (a : Und n r o h) (hr : r < h) : Und n (r + 1) (o / 2) h := by
  refine ⟨hr, a.2.1, a.2.2.1, ?_⟩
  rw [← a.2.2.2, show o / 2 = o / 2 ^ 1 by simp, div_up, show 1 + (h - (r + 1)) = h - r by omega]
theorem Und.down {n r o h : Nat} (a : Und n (r + 1) (o / 2) h) : Und n r o h := by
  refine ⟨by have := a.1; omega, a.2.1, a.2.2.1, ?_⟩
  rw [← a.2.2.2, show o / 2 = o / 2 ^ 1 by simp, div_up, show 1 + (h - (r + 1)) = h - r by have := a.1; omega]

theorem off_up {R r o : Nat} (hr : r < R) (ho : o < 2 ^ (R - r)) : o / 2 < 2 ^ (R - (r + 1)) := by
  have : 2 ^ (R - r) = 2 * 2 ^ (R - (r + 1)) := by rw [show R - r = (R - (r + 1)) + 1 by omega, Nat.pow_succ, Nat.mul_comm]
  omega

/-- Is it the root of its own row? -/
theorem root_here {n r o : Nat} (hok : rowsOk n = true) (hr : r ≤ rowsN n) (ho : o < 2 ^ (rowsN n - r)) : (rootOk n r && rootN n r == posN (rowsN n) r o) = true ↔ (n / 2 ^ r % 2 = 1 ∧ o = n / 2 ^ r - 1) := by
  have hR := rowsN_le n
  have hn := n_le_pow hok
  have hd : n / 2 ^ r ≤ 2 ^ (rowsN n - r) := by
    apply Nat.div_le_of_le_mul
    rw [← Nat.pow_add, show r + (rowsN n - r) = rowsN n by omega]
    exact hn
  obtain ⟨h1, h2, h3, h4⟩ := posN_is (rowsN n) r o hR hr ho
  constructor
  · intro h
    rw [Bool.and_eq_true] at h
    have hodd : n / 2 ^ r % 2 = 1 := by
      have := h.1
      simp [rootOk, hok] at this
      omega
    refine ⟨hodd, ?_⟩
    have hb := (posN_is (rowsN n) r (n / 2 ^ r - 1) hR hr (by omega)).2.2.2
    have e : rootN n r = posN (rowsN n) r (n / 2 ^ r - 1) := by
      unfold rootN
      rw [if_pos h.1, show n / 2 ^ r / 2 * 2 = n / 2 ^ r - 1 by omega]
      exact Nat.mod_eq_of_lt hb
    have := beq_iff_eq.1 h.2
    rw [e] at this
    unfold posN at this
    omega
  · rintro ⟨hodd, rfl⟩
    have hk : rootOk n r = true := by simp [rootOk, hok, hr]; omega
    rw [hk, Bool.true_and, beq_iff_eq]
    unfold rootN
    rw [if_pos hk, show n / 2 ^ r / 2 * 2 = n / 2 ^ r - 1 by omega]
    exact Nat.mod_eq_of_lt h4

/-- The way, row by row. -/
def rowL (R r o d : Nat) : List Nat := (List.range (d + 1)).map fun i => posN R (r + i) (o / 2 ^ i)
theorem rowL_succ (R r o d : Nat) : rowL R r o (d + 1) = posN R r o :: rowL R (r + 1) (o / 2) d := by
  unfold rowL
  rw [List.range_succ_eq_map, List.map_cons, List.map_map]
  congr 1
  · simp
  · apply List.map_congr_left
    intro i _
    simp only [Function.comp]
    rw [show o / 2 = o / 2 ^ 1 by simp, div_up, show r + 1 + i = r + (i + 1) by omega, show 1 + i = i + 1 by omega]

theorem wayFrom_und {n : Nat} (hok : rowsOk n = true) (h : Nat) : ∀ (d r o f : Nat), h - r = d → d < f → Und n r o h → o < 2 ^ (rowsN n - r) → wayFrom n (rowsN n) f (posN (rowsN n) r o) r = some (rowL (rowsN n) r o d) := by
  have hR := rowsN_le n
  intro d
  induction d with
  | zero =>
    intro r o f hd hf hU ho
    obtain ⟨f, rfl⟩ : ∃ f', f = f' + 1 := ⟨f - 1, by omega⟩
    obtain rfl : r = h := by have := hU.1; omega
    have hroot := (root_here hok hU.2.1 ho).2 ⟨hU.2.2.1, by have := hU.2.2.2; simpa using this⟩
    unfold wayFrom
    rw [if_pos hroot]
    simp [rowL]
  | succ d ih =>
    intro r o f hd hf hU ho
    obtain ⟨f, rfl⟩ : ∃ f', f = f' + 1 := ⟨f - 1, by omega⟩
    have hrh : r < h := by omega
    have hrR : r < rowsN n := by have := hU.2.1; omega
    have hno : ¬ (rootOk n r && rootN n r == posN (rowsN n) r o) = true := fun hc => by
      obtain ⟨h1, h2⟩ := (root_here hok (by omega) ho).1 hc
      exact odd_down hrh h1 hU.2.2.1 (by rw [← h2]; exact hU.2.2.2)
    obtain ⟨p1, p2⟩ := parent_at (rowsN n) r o hR hrR ho
    unfold wayFrom
    rw [if_neg hno, if_pos p1, p2, ih (r + 1) (o / 2) f (by omega) (by omega) (hU.up hrh) (off_up hrR ho), rowL_succ]
    rfl

theorem way_und {n r o h : Nat} (hok : rowsOk n = true) (hU : Und n r o h) (ho : o < 2 ^ (rowsN n - r)) : wayN n (posN (rowsN n) r o) = rowL (rowsN n) r o (h - r) := by
  have hR := rowsN_le n
  obtain ⟨h1, h2, h3, h4⟩ := posN_is (rowsN n) r o hR (by have := hU.1; have := hU.2.1; omega) ho
  unfold wayN
  rw [hok, h1, h2, wayFrom_und hok h (h - r) r o 65 rfl (by have := hU.2.1; omega) hU ho]
  rfl

theorem und_way {n : Nat} (hok : rowsOk n = true) : ∀ (f r o : Nat) (l : List Nat), r ≤ rowsN n → o < 2 ^ (rowsN n - r) → wayFrom n (rowsN n) f (posN (rowsN n) r o) r = some l → ∃ h, Und n r o h := by
  have hR := rowsN_le n
  intro f
  induction f with
  | zero => intro r o l _ _ h; simp [wayFrom] at h
  | succ f ih =>
    intro r o l hr ho h
    unfold wayFrom at h
    by_cases hc : (rootOk n r && rootN n r == posN (rowsN n) r o) = true
    · obtain ⟨h1, h2⟩ := (root_here hok hr ho).1 hc
      exact ⟨r, Nat.le_refl _, hr, h1, by simpa using h2⟩
    · rw [if_neg hc] at h
      by_cases hp : parentOk (posN (rowsN n) r o) (rowsN n) = true
      · rw [if_pos hp] at h
        have hrR : r < rowsN n := by
          obtain ⟨a, b, _, _⟩ := posN_is (rowsN n) r o hR hr ho
          have h' := hp
          unfold parentOk at h'
          rw [a, b] at h'
          simp at h'
          omega
        rw [(parent_at (rowsN n) r o hR hrR ho).2] at h
        cases hw : wayFrom n (rowsN n) f (posN (rowsN n) (r + 1) (o / 2)) (r + 1) with
        | none => rw [hw] at h; cases h
        | some l' =>
          obtain ⟨h', hU⟩ := ih (r + 1) (o / 2) l' (by omega) (off_up hrR ho) hw
          exact ⟨h', hU.down⟩
      · rw [if_neg hp] at h; cases h

/-- A position of the forest, in rows and offsets. -/
theorem tree_und {n p : Nat} (h : treeOk n p = true) : ∃ r o hh, rowsOk n = true ∧ p = posN (rowsN n) r o ∧ r ≤ rowsN n ∧ o < 2 ^ (rowsN n - r) ∧ Und n r o hh := by
  obtain ⟨h1, h2, h3⟩ := way_from ((tree_way n p).1 h)
  obtain ⟨a, b, c⟩ := pos_row p (rowsN n) (rowsN_le n) h2
  rw [c, (posN_is _ _ _ (rowsN_le n) a b).2.1] at h3
  obtain ⟨hh, hU⟩ := und_way h1 65 _ _ _ a b h3
  exact ⟨_, _, hh, h1, c, a, b, hU⟩
theorem und_tree {n r o h : Nat} (hok : rowsOk n = true) (hU : Und n r o h) (ho : o < 2 ^ (rowsN n - r)) : treeOk n (posN (rowsN n) r o) = true := by
  rw [tree_way, way_und hok hU ho]
  simp [rowL]
theorem und_treeN {n r o h : Nat} (hok : rowsOk n = true) (hU : Und n r o h) (ho : o < 2 ^ (rowsN n - r)) : treeN n (posN (rowsN n) r o) = h := by
  have hR := rowsN_le n
  have hl : (rowL (rowsN n) r o (h - r)).getLastD 0 = posN (rowsN n) h (o / 2 ^ (h - r)) := by
    unfold rowL
    rw [List.range_succ, List.map_append]
    simp
    rw [show r + (h - r) = h by have := hU.1; omega]
  unfold treeN
  rw [way_und hok hU ho, hl, if_neg (by simp [rowL])]
  refine (posN_is _ _ _ hR hU.2.1 ?_).2.1
  rw [Nat.div_lt_iff_lt_mul (Nat.two_pow_pos _), ← Nat.pow_add, show rowsN n - h + (h - r) = rowsN n - r by have := hU.1; have := hU.2.1; omega]
  exact ho

/-- One lies below the other, or is it. -/
def Bel (a b : Nat × Nat) : Prop := a.1 ≤ b.1 ∧ a.2 / 2 ^ (b.1 - a.1) = b.2
theorem Bel.rfl' (a : Nat × Nat) : Bel a a := ⟨Nat.le_refl _, by simp⟩
theorem Bel.trans {a b c : Nat × Nat} (h : Bel a b) (k : Bel b c) : Bel a c := by
  refine ⟨Nat.le_trans h.1 k.1, ?_⟩
  rw [← k.2, ← h.2, div_up, show b.1 - a.1 + (c.1 - b.1) = c.1 - a.1 by have := h.1; have := k.1; omega]
theorem Bel.bound {R : Nat} {a b : Nat × Nat} (h : Bel a b) (hb : b.2 < 2 ^ (R - b.1)) (hR : b.1 ≤ R) : a.2 < 2 ^ (R - a.1) := by
  rw [← h.2, Nat.div_lt_iff_lt_mul (Nat.two_pow_pos _), ← Nat.pow_add, show R - b.1 + (b.1 - a.1) = R - a.1 by have := h.1; omega] at hb
  exact hb
theorem Und.bel {n h : Nat} {a b : Nat × Nat} (k : Bel a b) (hU : Und n b.1 b.2 h) : Und n a.1 a.2 h := by
  refine ⟨Nat.le_trans k.1 hU.1, hU.2.1, hU.2.2.1, ?_⟩
  rw [← hU.2.2.2, ← k.2, div_up, show b.1 - a.1 + (h - b.1) = h - a.1 by have := k.1; have := hU.1; omega]

/-- A moved position's row and offset. -/
def mvd (n : Nat) (ts : List Nat) : Nat → Nat → Nat → Nat × Nat
  | 0, r, o => (r, o)
  | d + 1, r, o => if emptyB n ts (sibN (posN (rowsN n) r o) (rowsN n)) then mvd n ts d (r + 1) (o / 2) else ((mvd n ts d (r + 1) (o / 2)).1 - 1, 2 * (mvd n ts d (r + 1) (o / 2)).2 + o % 2)

theorem mvd_row (n : Nat) (ts : List Nat) : ∀ d r o, r ≤ (mvd n ts d r o).1
  | 0, r, o => Nat.le_refl _
  | d + 1, r, o => by
    have := mvd_row n ts d (r + 1) (o / 2)
    unfold mvd
    split
    · omega
    · show r ≤ _ - 1
      omega
theorem mvd_bel (n : Nat) (ts : List Nat) (d r o : Nat) : Bel (mvd n ts (d + 1) r o) (mvd n ts d (r + 1) (o / 2)) := by
  have h := mvd_row n ts d (r + 1) (o / 2)
  rw [mvd]
  split
  · exact Bel.rfl' _
  · refine ⟨Nat.sub_le _ _, ?_⟩
    show (2 * (mvd n ts d (r + 1) (o / 2)).2 + o % 2) / 2 ^ ((mvd n ts d (r + 1) (o / 2)).1 - ((mvd n ts d (r + 1) (o / 2)).1 - 1)) = _
    rw [show (mvd n ts d (r + 1) (o / 2)).1 - ((mvd n ts d (r + 1) (o / 2)).1 - 1) = 1 by omega]
    omega
theorem mvd_up (n : Nat) (ts : List Nat) : ∀ k d r o, Bel (mvd n ts (d + k) r o) (mvd n ts d (r + k) (o / 2 ^ k))
  | 0, d, r, o => by simpa using Bel.rfl' _
  | k + 1, d, r, o => by
    have h1 := mvd_bel n ts (d + k) r o
    have h2 := mvd_up n ts k d (r + 1) (o / 2)
    rw [show o / 2 = o / 2 ^ 1 by simp, div_up, show r + 1 + k = r + (k + 1) by omega, show 1 + k = k + 1 by omega] at h2
    rw [show o / 2 ^ 1 = o / 2 by simp] at h2
    exact h1.trans h2

theorem row_par {R r o : Nat} (hr : r ≤ R) : posN R r o % 2 = o % 2 := by
  have e1 := pow_split R r hr
  have e2 := pow_le R r
  have e4 : 2 ^ (R + 1) = 2 * 2 ^ R := by rw [Nat.pow_succ]; omega
  unfold posN beginN; omega

theorem way_step {n r o h : Nat} (hok : rowsOk n = true) (hU : Und n r o h) (ho : o < 2 ^ (rowsN n - r)) (hr : r < h) : wayN n (posN (rowsN n) r o) = posN (rowsN n) r o :: wayN n (posN (rowsN n) (r + 1) (o / 2)) := by
  rw [way_und hok hU ho, way_und hok (hU.up hr) (off_up (by have := hU.2.1; omega) ho), show h - r = (h - (r + 1)) + 1 by omega, rowL_succ]

theorem moved_root {n r o : Nat} {ts : List Nat} (hok : rowsOk n = true) (hU : Und n r o r) (ho : o < 2 ^ (rowsN n - r)) : movedN n ts (posN (rowsN n) r o) = posN (rowsN n) r o := by
  unfold movedN
  rw [way_und hok hU ho]
  simp [rowL]

theorem moved_step {n r o h : Nat} {ts : List Nat} (hok : rowsOk n = true) (hU : Und n r o h) (ho : o < 2 ^ (rowsN n - r)) (hr : r < h) :
    movedN n ts (posN (rowsN n) r o) = moveStep n ts (movedN n ts (posN (rowsN n) (r + 1) (o / 2))) (posN (rowsN n) r o) := by
  have hne : wayN n (posN (rowsN n) (r + 1) (o / 2)) ≠ [] := (tree_way n _).1 (und_tree hok (hU.up hr) (off_up (by have := hU.2.1; omega) ho))
  unfold movedN
  rw [way_step hok hU ho hr]
  generalize wayN n (posN (rowsN n) (r + 1) (o / 2)) = l at hne ⊢
  cases l with
  | nil => exact absurd rfl hne
  | cons y l => simp [List.dropLast_cons_cons, List.foldl_append]

theorem moved_is {n h : Nat} {ts : List Nat} (hok : rowsOk n = true) : ∀ d r o, h - r = d → Und n r o h → o < 2 ^ (rowsN n - r) → movedN n ts (posN (rowsN n) r o) = posN (rowsN n) (mvd n ts d r o).1 (mvd n ts d r o).2 ∧ Bel (mvd n ts d r o) (h, o / 2 ^ (h - r)) ∧ (mvd n ts d r o).2 < 2 ^ (rowsN n - (mvd n ts d r o).1) := by
  have hR := rowsN_le n
  intro d
  induction d with
  | zero =>
    intro r o hd hU ho
    obtain rfl : r = h := by have := hU.1; omega
    exact ⟨moved_root hok hU ho, by simpa [mvd] using Bel.rfl' _, ho⟩
  | succ d ih =>
    intro r o hd hU ho
    have hr : r < h := by omega
    have hrR : r < rowsN n := by have := hU.2.1; omega
    obtain ⟨i1, i2, i3⟩ := ih (r + 1) (o / 2) (by omega) (hU.up hr) (off_up hrR ho)
    have hb : Bel (mvd n ts (d + 1) r o) (h, o / 2 ^ (h - r)) := by
      refine (mvd_bel n ts d r o).trans ?_
      have : o / 2 / 2 ^ (h - (r + 1)) = o / 2 ^ (h - r) := by rw [show o / 2 = o / 2 ^ 1 by simp, div_up, show 1 + (h - (r + 1)) = h - r by omega]
      rw [← this]; exact i2
    have ht : o / 2 ^ (h - r) < 2 ^ (rowsN n - h) := by
      rw [Nat.div_lt_iff_lt_mul (Nat.two_pow_pos _), ← Nat.pow_add, show rowsN n - h + (h - r) = rowsN n - r by have := hU.2.1; omega]
      exact ho
    have hbd := hb.bound (R := rowsN n) ht hU.2.1
    refine ⟨?_, hb, hbd⟩
    rw [moved_step hok hU ho hr, i1]
    have hrow := mvd_row n ts d (r + 1) (o / 2)
    have htop : (mvd n ts d (r + 1) (o / 2)).1 ≤ h := i2.1
    unfold moveStep
    rw [mvd] at hbd ⊢
    split
    · rfl
    · rename_i hne
      rw [if_neg hne] at hbd
      generalize mvd n ts d (r + 1) (o / 2) = z at i1 i2 i3 hbd hrow htop ⊢
      obtain ⟨z1, z2⟩ := z
      simp only at i3 hbd hrow htop ⊢
      obtain ⟨r3, rfl⟩ : ∃ r3, z1 = r3 + 1 := ⟨z1 - 1, by omega⟩
      obtain ⟨l1, l2, l3⟩ := left_at (rowsN n) r3 z2 hR (by have := hU.2.1; omega) i3
      rw [l2, row_par (by omega), Nat.add_sub_cancel]
      have := (posN_is (rowsN n) r3 (2 * z2 + o % 2) hR (by have := hU.2.1; omega) (by omega)).2.2.2
      unfold posN at this ⊢
      rw [Nat.add_assoc]
      exact Nat.mod_eq_of_lt this

/-- What is not gone lies below nothing emptied. -/
theorem not_gone_up {n h r o : Nat} {ts : List Nat} (hok : rowsOk n = true) (hU : Und n r o h) (ho : o < 2 ^ (rowsN n - r)) (hg : goneB n ts (posN (rowsN n) r o) = false) : ∀ k, r + k ≤ h → emptyB n ts (posN (rowsN n) (r + k) (o / 2 ^ k)) = false := by
  have hR := rowsN_le n
  unfold goneB at hg
  rw [Bool.or_eq_false_iff] at hg
  have hmem : ∀ k, r + k ≤ h → posN (rowsN n) (r + k) (o / 2 ^ k) ∈ wayN n (posN (rowsN n) r o) := fun k hk => by
    rw [way_und hok hU ho]
    unfold rowL
    exact List.mem_map.2 ⟨k, by simp; omega, rfl⟩
  have hoff : ∀ k, r + k ≤ h → o / 2 ^ k < 2 ^ (rowsN n - (r + k)) := fun k hk => by
    rw [Nat.div_lt_iff_lt_mul (Nat.two_pow_pos _), ← Nat.pow_add, show rowsN n - (r + k) + k = rowsN n - r by have := hU.2.1; omega]
    exact ho
  intro k
  induction k with
  | zero => intro _; simpa using hg.2
  | succ k ih =>
    intro hk
    have h1 := ih (by omega)
    have hm : ts.contains (posN (rowsN n) (r + (k + 1)) (o / 2 ^ (k + 1))) = false := by
      have := List.any_eq_false.1 hg.1 _ (hmem (k + 1) hk)
      simpa using this
    have hrR : r + k < rowsN n := by have := hU.2.1; omega
    obtain ⟨a1, a2, a3, a4⟩ := posN_is (rowsN n) (r + (k + 1)) (o / 2 ^ (k + 1)) hR (by omega) (hoff (k + 1) hk)
    obtain ⟨b1, b2, b3, b4⟩ := posN_is (rowsN n) (r + k) (o / 2 ^ k) hR (by omega) (hoff k (by omega))
    have hpar : o / 2 ^ (k + 1) = o / 2 ^ k / 2 := by rw [show o / 2 ^ k / 2 = o / 2 ^ k / 2 ^ 1 by simp, div_up]
    obtain ⟨l1, l2, l3⟩ := left_at (rowsN n) (r + k) (o / 2 ^ (k + 1)) hR hrR (hoff (k + 1) hk)
    unfold emptyB at h1 ⊢
    rw [b2] at h1
    rw [a2, show r + (k + 1) = (r + k) + 1 by omega]
    rw [show r + (k + 1) = (r + k) + 1 by omega] at hm
    rw [emptyN, hm, Bool.false_or, l2]
    obtain ⟨s1, s2⟩ := sib_at (rowsN n) (r + k) (2 * (o / 2 ^ (k + 1))) hR hrR (by omega)
    rw [if_pos (by omega)] at s1
    rw [s1]
    rcases Nat.mod_two_eq_zero_or_one (o / 2 ^ k) with hz | hz
    · rw [show 2 * (o / 2 ^ (k + 1)) = o / 2 ^ k by omega, h1]; simp
    · rw [show 2 * (o / 2 ^ (k + 1)) + 1 = o / 2 ^ k by omega, h1]; simp
end Go.Proofs.Ytcfpgcejahfdfab

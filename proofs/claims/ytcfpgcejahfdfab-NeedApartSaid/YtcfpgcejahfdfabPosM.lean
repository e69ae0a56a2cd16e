/- What package pos computes, as plain functions on numbers. No program. -/
import Derived.Test.YtcfpgcejahfdfabBits
namespace Go.Proofs.Ytcfpgcejahfdfab
open Go.Lib
set_option linter.unusedVariables false
set_option linter.unusedSimpArgs false

def rowsOk (n : Nat) : Bool := decide (n ≤ 9223372036854775807)
def rowsN (n : Nat) : Nat := if n ≤ 9223372036854775807 then bitLen (n - 1) else 0
def beginN (r R : Nat) : Nat := 2 ^ (R + 1) - 2 ^ (R + 1 - r)
def isPos (p R : Nat) : Bool := decide (p + 1 < 2 ^ (R + 1))
def rowN (p R : Nat) : Nat := if p + 1 < 2 ^ (R + 1) then R + 1 - bitLen (2 ^ (R + 1) - 1 - p) else 0
def parentOk (p R : Nat) : Bool := isPos p R && !(rowN p R == R)
def parentN (p R : Nat) : Nat := if parentOk p R then p / 2 + 2 ^ R else 0
def leftOk (p R : Nat) : Bool := isPos p R && !(rowN p R == 0)
def leftN (p R : Nat) : Nat := if leftOk p R then 2 * p % 2 ^ (R + 1) else 0
def sibN (p R : Nat) : Nat := if parentOk p R then (if p % 2 = 0 then p + 1 else p - 1) else 0
def rootOk (n h : Nat) : Bool := rowsOk n && (decide (h ≤ rowsN n) && !(n / 2 ^ h % 2 == 0))
def rootN (n h : Nat) : Nat := if rootOk n h then (beginN h (rowsN n) + n / 2 ^ h / 2 * 2) % 2 ^ 64 else 0
/-- The heights from 62 down, so many of them looked at. -/
def treesUp (n : Nat) : Nat → List Nat
  | 0 => []
  | d + 1 => treesUp n d ++ (if n / 2 ^ (62 - d) % 2 = 0 then [] else [62 - d])
def treesN (n : Nat) : List Nat := if rowsOk n then treesUp n 63 else []
def withinN (a b R : Nat) : Bool := isPos a R && isPos b R && decide (rowN a R < rowN b R) && ((a - beginN (rowN a R) R) / 2 ^ (rowN b R - rowN a R) == b - beginN (rowN b R) R)

/-- The way from a position on, row by row; none if there is no root on it. -/
def wayFrom (n R : Nat) : Nat → Nat → Nat → Option (List Nat)
  | 0, _, _ => none
  | f + 1, q, row => if rootOk n row && rootN n row == q then some [q] else if parentOk q R then (wayFrom n R f (parentN q R) (row + 1)).map (q :: ·) else none
def wayN (n p : Nat) : List Nat := if rowsOk n && isPos p (rowsN n) then (wayFrom n (rowsN n) 65 p (rowN p (rowsN n))).getD [] else []
def treeOk (n p : Nat) : Bool := !(wayN n p).isEmpty
def treeN (n p : Nat) : Nat := if (wayN n p).isEmpty then 0 else rowN ((wayN n p).getLastD 0) (rowsN n)

theorem treesUp_len (n : Nat) : ∀ d, (treesUp n d).length ≤ d
  | 0 => by simp [treesUp]
  | d + 1 => by
    have := treesUp_len n d
    simp only [treesUp, List.length_append]
    split <;> simp <;> omega

theorem rowsN_le (n : Nat) : rowsN n ≤ 63 := by
  unfold rowsN
  split
  · exact bl_le _ 63 (by omega)
  · omega

theorem rowN_le (p R : Nat) (hR : R ≤ 63) : rowN p R ≤ R := by
  unfold rowN
  split
  · rename_i h
    have h1 : 2 ^ (R + 1) ≤ 2 ^ 64 := Nat.pow_le_pow_right (by decide) (by omega)
    have := bl_bounds (2 ^ (R + 1) - 1 - p) (by omega) (by omega)
    omega
  · omega

theorem pow64 (R : Nat) (hR : R ≤ 63) : 2 ^ (R + 1) ≤ 2 ^ 64 := Nat.pow_le_pow_right (by decide) (by omega)

/-- What Row reckons. -/
theorem row_eq (p R : Nat) (hR : R ≤ 63) (h : p + 1 < 2 ^ (R + 1)) :
    (64 - (bitLen (2 ^ 64 - 1 - p * 2 ^ (63 - R) % 2 ^ 64) : Int)) = (rowN p R : Int) := by
  have h1 := pow64 R hR
  have e0 : 2 ^ 64 = 2 ^ (R + 1) * 2 ^ (63 - R) := by rw [← Nat.pow_add]; congr 1; omega
  have hs := Nat.two_pow_pos (63 - R)
  have hlt : p * 2 ^ (63 - R) < 2 ^ 64 := by rw [e0]; exact Nat.mul_lt_mul_of_pos_right (by omega) hs
  rw [Nat.mod_eq_of_lt hlt]
  have e1 : 2 ^ 64 - 1 - p * 2 ^ (63 - R) = (2 ^ (R + 1) - 1 - p) * 2 ^ (63 - R) + (2 ^ (63 - R) - 1) := by
    have : (2 ^ (R + 1) - 1 - p) * 2 ^ (63 - R) + (p + 1) * 2 ^ (63 - R) = 2 ^ 64 := by
      rw [← Nat.add_mul, e0]; congr 1; omega
    have : (p + 1) * 2 ^ (63 - R) = p * 2 ^ (63 - R) + 2 ^ (63 - R) := Nat.succ_mul _ _
    omega
  rw [e1, bl_shift_ones _ _ (by omega) (by
    rw [e0]; exact Nat.mul_le_mul_right _ (by omega))]
  have b := bl_bounds (2 ^ (R + 1) - 1 - p) (by omega) (by omega)
  have c := bl_le (2 ^ (R + 1) - 1 - p) (R + 1) (by omega)
  unfold rowN
  rw [if_pos h]
  omega

theorem begin_eq (r R : Nat) (h1 : r ≤ R) (h2 : R ≤ 63) : IntKind.u64.wrap (IntKind.u64.wrap (2 * 2 ^ R) - IntKind.u64.wrap (2 * 2 ^ (R - r))) = ((beginN r R : Nat) : Int) := by
  have a1 : 2 ^ (R + 1) ≤ 2 ^ 64 := pow64 R h2
  have a2 : 2 ^ (R + 1 - r) ≤ 2 ^ (R + 1) := Nat.pow_le_pow_right (by decide) (by omega)
  have e1 : ((2 : Int) * 2 ^ R) = ((2 ^ (R + 1) : Nat) : Int) := by simp [Int.pow_succ, Int.mul_comm]
  have e2 : ((2 : Int) * 2 ^ (R - r)) = ((2 ^ (R + 1 - r) : Nat) : Int) := by
    rw [show R + 1 - r = (R - r) + 1 by omega]; simp [Int.pow_succ, Int.mul_comm]
  rw [e1, e2, IntKind.wrap_u64, IntKind.wrap_u64, IntKind.wrap_u64]
  have : beginN r R = 2 ^ (R + 1) - 2 ^ (R + 1 - r) := rfl
  have p1 := Nat.two_pow_pos (R + 1 - r)
  omega

theorem beginN_lt (r R : Nat) (h2 : R ≤ 63) : beginN r R < 2 ^ 64 := by
  have a1 := pow64 R h2
  have p1 := Nat.two_pow_pos (R + 1 - r)
  unfold beginN
  omega

theorem lim_eq (R : Nat) (hR : R ≤ 63) : IntKind.u64.wrap (IntKind.u64.wrap (2 * 2 ^ R) - 1) = ((2 ^ (R + 1) - 1 : Nat) : Int) := by
  have a1 := pow64 R hR
  have e1 : ((2 : Int) * 2 ^ R) = ((2 ^ (R + 1) : Nat) : Int) := by simp [Int.pow_succ, Int.mul_comm]
  rw [e1, IntKind.wrap_u64, IntKind.wrap_u64]
  have p1 := Nat.two_pow_pos (R + 1)
  omega

/-- Where a position lies in its row. -/
theorem row_bounds (p R : Nat) (hR : R ≤ 63) (h : p + 1 < 2 ^ (R + 1)) : beginN (rowN p R) R ≤ p ∧ p < beginN (rowN p R) R + 2 ^ (R - rowN p R) := by
  have h1 := pow64 R hR
  obtain ⟨b1, b2, b3⟩ := bl_bounds (2 ^ (R + 1) - 1 - p) (by omega) (by omega)
  have b4 := bl_le (2 ^ (R + 1) - 1 - p) (R + 1) (by omega)
  obtain ⟨k, hk⟩ : ∃ k, bitLen (2 ^ (R + 1) - 1 - p) = k + 1 := ⟨bitLen (2 ^ (R + 1) - 1 - p) - 1, by omega⟩
  have e : rowN p R = R - k := by unfold rowN; rw [if_pos h, hk]; omega
  rw [hk] at b2 b3 b4
  simp only [Nat.add_sub_cancel] at b2
  unfold beginN
  rw [e, show R + 1 - (R - k) = k + 1 by omega, show R - (R - k) = k by omega]
  have : 2 ^ (k + 1) = 2 * 2 ^ k := by rw [Nat.pow_succ]; omega
  omega

theorem off_eq (p R : Nat) (hR : R ≤ 63) (h : p + 1 < 2 ^ (R + 1)) : IntKind.u64.wrap ((p : Int) - (beginN (rowN p R) R : Int)) = ((p - beginN (rowN p R) R : Nat) : Int) := by
  have b := row_bounds p R hR h
  have := pow64 R hR
  rw [IntKind.wrap_u64]; omega

theorem shl_row (p R : Nat) : IntKind.u64.wrap ((p : Int) * 2 ^ (63 - R)) = ((p * 2 ^ (63 - R) % 2 ^ 64 : Nat) : Int) := shl_pow p (63 - R)

theorem not_row (p R : Nat) : bits .xor .u64 IntKind.u64.max ((p * 2 ^ (63 - R) % 2 ^ 64 : Nat) : Int) = ((2 ^ 64 - 1 - p * 2 ^ (63 - R) % 2 ^ 64 : Nat) : Int) :=
  not_u64 _ (Nat.mod_lt _ (by decide))

theorem parent_eq (p R : Nat) (hR : R ≤ 63) (h : p + 1 < 2 ^ (R + 1)) : bits .or .u64 ((p : Int) / 2) (IntKind.u64.wrap (2 ^ R)) = ((p / 2 + 2 ^ R : Nat) : Int) := by
  have e : IntKind.u64.wrap (2 ^ R) = ((2 ^ R : Nat) : Int) := by
    have : 2 ^ R < 2 ^ 64 := Nat.pow_lt_pow_right (by decide) (by omega)
    have e2 : (2 ^ R : Int) = ((2 ^ R : Nat) : Int) := by simp
    rw [e2, wrap_u64_in _ this]
  rw [e, show ((p : Int) / 2) = ((p / 2 : Nat) : Int) by simp, or_pow _ _ (by rw [Nat.pow_succ] at h; omega) (by omega)]

theorem left_eq (p R : Nat) (hR : R ≤ 63) : bits .and .u64 (IntKind.u64.wrap ((p : Int) * 2)) ((2 ^ (R + 1) - 1 : Nat) : Int) = ((2 * p % 2 ^ (R + 1) : Nat) : Int) := by
  rw [show ((p : Int) * 2) = ((2 * p : Nat) : Int) by simp [Int.mul_comm], wrap_u64_nat, and_mask _ _ (Nat.mod_lt _ (by decide)) (by omega)]
  congr 1
  exact Nat.mod_mod_of_dvd _ (Nat.pow_dvd_pow 2 (by omega))

/-- A position, its parent, and so on. -/
def upL (R : Nat) : Nat → Nat → List Nat
  | 0, _ => []
  | f + 1, p => p :: (if parentOk p R then upL R f (parentN p R) else [])

theorem parent_pos (p R : Nat) (hR : R ≤ 63) (h : parentOk p R = true) : isPos (parentN p R) R = true ∧ rowN (parentN p R) R = rowN p R + 1 := by
  have h0 := h
  simp only [parentOk, isPos, Bool.and_eq_true, decide_eq_true_eq, Bool.not_eq_true', beq_eq_false_iff_ne] at h0
  obtain ⟨hp, hr⟩ := h0
  have h1 := pow64 R hR
  have e : parentN p R = p / 2 + 2 ^ R := by simp [parentN, h]
  have e2 : 2 ^ (R + 1) = 2 * 2 ^ R := by rw [Nat.pow_succ]; omega
  have hlt : parentN p R + 1 < 2 ^ (R + 1) := by
    -- the root itself has no parent
    rw [e]
    by_cases hc : p / 2 + 2 ^ R + 1 < 2 ^ (R + 1)
    · exact hc
    · exfalso
      apply hr
      have hp2 : p + 2 = 2 ^ (R + 1) := by omega
      have e3 : 2 ^ (R + 1) - 1 - p = 1 := by omega
      unfold rowN
      rw [if_pos hp, e3, show bitLen 1 = 1 by decide]
      omega
  refine ⟨by simpa [isPos] using hlt, ?_⟩
  have e4 : 2 ^ (R + 1) - 1 - parentN p R = (2 ^ (R + 1) - 1 - p) / 2 := by rw [e]; omega
  have e5 := bitLen_half (2 ^ (R + 1) - 1 - p) (by omega) (by omega)
  unfold rowN at hr ⊢
  rw [if_pos hp] at hr ⊢
  rw [if_pos hlt, e4]
  have b := bl_le (2 ^ (R + 1) - 1 - p) (R + 1) (by omega)
  omega

theorem parentN_lt (p R : Nat) (hR : R ≤ 63) : parentN p R < 2 ^ 64 := by
  by_cases h : parentOk p R = true
  · have := (parent_pos p R hR h).1
    have h1 := pow64 R hR
    simp only [isPos, decide_eq_true_eq] at this
    omega
  · simp [parentN, h]

/-- Is x the root of the tree whose height is its row? -/
def rootAt (n x row : Nat) : Bool := rootOk n row && rootN n row == x

/-- None of a way's positions, from a row on, is a root. -/
def noRoot (n : Nat) : Nat → List Nat → Prop
  | _, [] => True
  | row, x :: l => rootAt n x row = false ∧ noRoot n (row + 1) l

theorem noRoot_snoc (n x : Nat) : ∀ (l : List Nat) (row : Nat), noRoot n row (l ++ [x]) ↔ noRoot n row l ∧ rootAt n x (row + l.length) = false
  | [], row => by simp [noRoot]
  | y :: l, row => by
    have := noRoot_snoc n x l (row + 1)
    simp only [List.cons_append, noRoot, this, List.length_cons]
    rw [show row + 1 + l.length = row + (l.length + 1) by omega, and_assoc]

theorem upL_length (R : Nat) : ∀ (f p : Nat), (upL R f p).length ≤ f
  | 0, _ => by simp [upL]
  | f + 1, p => by
    simp only [upL, List.length_cons]
    split
    · have := upL_length R f (parentN p R); omega
    · simp

/-- The way ends at its first root. -/
theorem way_stop (n R x : Nat) : ∀ (f p row : Nat) (pre : List Nat), (pre ++ [x]) <+: upL R f p → noRoot n row pre → rootAt n x (row + pre.length) = true → wayFrom n R f p row = some (pre ++ [x])
  | 0, p, row, pre, h, _, _ => by
    have := h.length_le
    simp [upL] at this
  | f + 1, p, row, [], h, _, hr => by
    have e : x = p := by
      obtain ⟨t, ht⟩ := h
      simp [upL] at ht; exact ht.1
    subst e
    simp only [rootAt, List.length_nil, Nat.add_zero] at hr
    simp [wayFrom, hr]
  | f + 1, p, row, y :: pre, h, hn, hr => by
    obtain ⟨t, ht⟩ := h
    simp only [upL, List.cons_append, List.cons.injEq] at ht
    obtain ⟨e, ht⟩ := ht
    subst e
    obtain ⟨h1, h2⟩ := hn
    by_cases hp : parentOk y R = true
    · rw [if_pos hp] at ht
      have := way_stop n R x f (parentN y R) (row + 1) pre ⟨t, ht⟩ h2 (by rw [show row + 1 + pre.length = row + (y :: pre).length by simp; omega]; exact hr)
      unfold rootAt at h1
      simp [wayFrom, h1, hp, this]
    · rw [if_neg hp] at ht
      simp at ht

theorem way_none (n R : Nat) : ∀ (f p row : Nat), noRoot n row (upL R f p) → wayFrom n R f p row = none
  | 0, _, _, _ => rfl
  | f + 1, p, row, h => by
    simp only [upL, noRoot] at h
    obtain ⟨h1, h2⟩ := h
    unfold rootAt at h1
    by_cases hp : parentOk p R = true
    · rw [if_pos hp] at h2
      simp [wayFrom, h1, hp, way_none n R f _ _ h2]
    · simp [wayFrom, h1, hp]

theorem wayFrom_lt (n R : Nat) (hR : R ≤ 63) : ∀ (f p row : Nat) (l : List Nat), p < 2 ^ 64 → wayFrom n R f p row = some l → ∀ x ∈ l, x < 2 ^ 64
  | 0, _, _, _, _, h => by simp [wayFrom] at h
  | f + 1, p, row, l, hp, h => by
    simp only [wayFrom] at h
    split at h
    · simp at h; subst h; simpa using hp
    · split at h
      · obtain ⟨l', hl, e⟩ := Option.map_eq_some_iff.1 h
        subst e
        intro x hx
        rcases List.mem_cons.1 hx with e | hx
        · rw [e]; exact hp
        · exact wayFrom_lt n R hR f _ _ l' (parentN_lt p R hR) hl x hx
      · cases h

theorem way_mem_lt (n p : Nat) (hp : p < 2 ^ 64) : ∀ x ∈ wayN n p, x < 2 ^ 64 := by
  intro x hx
  unfold wayN at hx
  split at hx
  · cases hw : wayFrom n (rowsN n) 65 p (rowN p (rowsN n)) with
    | none => rw [hw] at hx; simp at hx
    | some l => rw [hw] at hx; exact wayFrom_lt n (rowsN n) (rowsN_le n) _ _ _ l hp hw x hx
  · simp at hx

theorem wayFrom_pos (n R : Nat) (hR : R ≤ 63) : ∀ (f p row : Nat) (l : List Nat), isPos p R = true → wayFrom n R f p row = some l → ∀ x ∈ l, isPos x R = true
  | 0, _, _, _, _, h => by simp [wayFrom] at h
  | f + 1, p, row, l, hp, h => by
    simp only [wayFrom] at h
    split at h
    · simp at h; subst h; simpa using hp
    · split at h
      · rename_i hpo
        obtain ⟨l', hl, e⟩ := Option.map_eq_some_iff.1 h
        subst e
        intro x hx
        rcases List.mem_cons.1 hx with e | hx
        · rw [e]; exact hp
        · exact wayFrom_pos n R hR f _ _ l' (parent_pos p R hR hpo).1 hl x hx
      · cases h

theorem way_mem_pos (n p : Nat) : ∀ x ∈ wayN n p, isPos x (rowsN n) = true := by
  intro x hx
  unfold wayN at hx
  split at hx
  · rename_i hc
    simp only [Bool.and_eq_true] at hc
    cases hw : wayFrom n (rowsN n) 65 p (rowN p (rowsN n)) with
    | none => rw [hw] at hx; simp at hx
    | some l => rw [hw] at hx; exact wayFrom_pos n (rowsN n) (rowsN_le n) _ _ _ l hc.2 hw x hx
  · simp at hx

theorem wayFrom_len (n R : Nat) : ∀ (f p row : Nat) (l : List Nat), wayFrom n R f p row = some l → l.length ≤ f
  | 0, _, _, _, h => by simp [wayFrom] at h
  | f + 1, p, row, l, h => by
    simp only [wayFrom] at h
    split at h
    · simp at h; subst h; simp
    · split at h
      · obtain ⟨l', hl, e⟩ := Option.map_eq_some_iff.1 h
        subst e
        have := wayFrom_len n R f _ _ l' hl
        simp; omega
      · cases h

theorem wayN_len (n p : Nat) : (wayN n p).length ≤ 65 := by
  unfold wayN
  split
  · cases hw : wayFrom n (rowsN n) 65 p (rowN p (rowsN n)) with
    | none => simp
    | some l => simpa using wayFrom_len n (rowsN n) _ _ _ l hw
  · simp

end Go.Proofs.Ytcfpgcejahfdfab

/- Ways: plain facts. No program. -/
import Derived.Test.YtcfpgcejahfdfabPosM
namespace Go.Proofs.Ytcfpgcejahfdfab
open Go.Lib
set_option linter.unusedVariables false
set_option linter.unusedSimpArgs false

theorem wayFrom_more (n R : Nat) : ∀ (f f' p row : Nat) (l : List Nat), wayFrom n R f p row = some l → f ≤ f' → wayFrom n R f' p row = some l
  | 0, _, _, _, _, h, _ => by simp [wayFrom] at h
  | f + 1, f', p, row, l, h, hf => by
    obtain ⟨k, rfl⟩ : ∃ k, f' = k + 1 := ⟨f' - 1, by omega⟩
    simp only [wayFrom] at h ⊢
    split at h
    · rename_i hc; rw [if_pos hc]; exact h
    · rename_i hc
      rw [if_neg hc]
      split at h
      · rename_i hp
        rw [if_pos hp]
        obtain ⟨l', hl, rfl⟩ := Option.map_eq_some_iff.1 h
        rw [wayFrom_more n R f k _ _ l' hl (by omega)]
        rfl
      · cases h

theorem wayFrom_suffix (n R : Nat) (hR : R ≤ 63) : ∀ (f p : Nat) (l pre : List Nat) (x : Nat) (rest : List Nat), isPos p R = true → wayFrom n R f p (rowN p R) = some l → l = pre ++ x :: rest →
    ∃ f', f' ≤ f ∧ isPos x R = true ∧ wayFrom n R f' x (rowN x R) = some (x :: rest)
  | 0, _, _, _, _, _, _, h, _ => by simp [wayFrom] at h
  | f + 1, p, l, pre, x, rest, hp, h, e => by
    cases pre with
    | nil =>
      subst e
      have h2 := h
      simp only [wayFrom] at h
      have hx : x = p := by
        split at h
        · simp at h; exact h.1.symm
        · split at h
          · obtain ⟨l', _, e⟩ := Option.map_eq_some_iff.1 h
            simp at e; exact e.1.symm
          · cases h
      subst hx
      exact ⟨f + 1, Nat.le_refl _, hp, h2⟩
    | cons y pre =>
      subst e
      simp only [wayFrom] at h
      split at h
      · simp at h
      · split at h
        · rename_i hpo
          obtain ⟨l', hl, e⟩ := Option.map_eq_some_iff.1 h
          simp only [List.cons_append, List.cons.injEq] at e
          obtain ⟨k1, k2⟩ := parent_pos p R hR hpo
          rw [← k2] at hl
          obtain ⟨f', hf, hx, hw⟩ := wayFrom_suffix n R hR f _ l' pre x rest k1 hl e.2
          exact ⟨f', by omega, hx, hw⟩
        · cases h

theorem way_from {n p : Nat} (h : wayN n p ≠ []) : rowsOk n = true ∧ isPos p (rowsN n) = true ∧ wayFrom n (rowsN n) 65 p (rowN p (rowsN n)) = some (wayN n p) := by
  unfold wayN at h ⊢
  split at h
  · rename_i hc
    simp only [Bool.and_eq_true] at hc
    rw [if_pos (by simp [hc])]
    cases hw : wayFrom n (rowsN n) 65 p (rowN p (rowsN n)) with
    | none => rw [hw] at h; simp at h
    | some l => exact ⟨hc.1, hc.2, rfl⟩
  · exact absurd rfl h

/-- What stands on a way stands on it with all that follows. -/
theorem way_suffix {n p : Nat} {pre : List Nat} {x : Nat} {rest : List Nat} (h : wayN n p = pre ++ x :: rest) : wayN n x = x :: rest := by
  obtain ⟨h1, h2, h3⟩ := way_from (n := n) (p := p) (by rw [h]; simp)
  obtain ⟨f', hf, hx, hw⟩ := wayFrom_suffix n (rowsN n) (rowsN_le n) 65 p _ pre x rest h2 h3 h
  have := wayFrom_more n (rowsN n) f' 65 x _ _ hw hf
  unfold wayN
  rw [if_pos (by rw [h1, hx]; rfl), this]
  rfl

theorem wayFrom_head (n R : Nat) : ∀ (f p row y : Nat) (l : List Nat), wayFrom n R f p row = some (y :: l) → y = p
  | 0, _, _, _, _, h => by simp [wayFrom] at h
  | f + 1, p, row, y, l, h => by
    simp only [wayFrom] at h
    split at h
    · simp at h; exact h.1.symm
    · split at h
      · obtain ⟨l', _, e⟩ := Option.map_eq_some_iff.1 h
        simp at e; exact e.1.symm
      · cases h

theorem way_head {n p y : Nat} {l : List Nat} (h : wayN n p = y :: l) : y = p := by
  obtain ⟨h1, h2, h3⟩ := way_from (n := n) (p := p) (by rw [h]; simp)
  rw [h] at h3
  exact wayFrom_head n _ _ _ _ _ _ h3

theorem wayFrom_rows (n R : Nat) (hR : R ≤ 63) : ∀ (f p : Nat) (l : List Nat), isPos p R = true → wayFrom n R f p (rowN p R) = some l → l.Pairwise (fun a b => rowN a R < rowN b R) ∧ ∀ y ∈ l, rowN p R ≤ rowN y R
  | 0, _, _, _, h => by simp [wayFrom] at h
  | f + 1, p, l, hp, h => by
    simp only [wayFrom] at h
    split at h
    · simp at h; subst h; simp
    · split at h
      · rename_i hpo
        obtain ⟨l', hl, e⟩ := Option.map_eq_some_iff.1 h
        subst e
        obtain ⟨k1, k2⟩ := parent_pos p R hR hpo
        rw [← k2] at hl
        obtain ⟨g1, g2⟩ := wayFrom_rows n R hR f _ l' k1 hl
        refine ⟨List.pairwise_cons.2 ⟨fun y hy => by have := g2 y hy; omega, g1⟩, fun y hy => ?_⟩
        rcases List.mem_cons.1 hy with e | hy
        · subst e; exact Nat.le_refl _
        · have := g2 y hy; omega
      · cases h

theorem way_rows (n p : Nat) : (wayN n p).Pairwise (fun a b => rowN a (rowsN n) < rowN b (rowsN n)) := by
  by_cases h : wayN n p = []
  · rw [h]; exact List.Pairwise.nil
  · obtain ⟨h1, h2, h3⟩ := way_from h
    exact (wayFrom_rows n (rowsN n) (rowsN_le n) 65 p _ h2 h3).1

theorem way_nodup (n p : Nat) : (wayN n p).Nodup := (way_rows n p).imp fun h e => by rw [e] at h; omega

/-- Two ways that share a position share what follows. -/
theorem way_share {n p q x : Nat} {pre rest pre' rest' : List Nat} (h : wayN n p = pre ++ x :: rest) (h' : wayN n q = pre' ++ x :: rest') : rest = rest' := by
  have a := way_suffix h
  have b := way_suffix h'
  rw [a] at b
  simpa using b

theorem tree_way (n p : Nat) : treeOk n p = true ↔ wayN n p ≠ [] := by
  unfold treeOk; cases wayN n p <;> simp
end Go.Proofs.Ytcfpgcejahfdfab

/- What package need plans: plain facts. No program. -/
import Derived.Test.YtcfpgcejahfdfabWayM
namespace Go.Proofs.Ytcfpgcejahfdfab
open Go.Lib
set_option linter.unusedVariables false
set_option linter.unusedSimpArgs false

/-- Of the first k targets: each is a position of the forest, none comes twice. -/
def TreesOk (n : Nat) (ts : List Nat) (k : Nat) : Prop := (∀ t ∈ ts.take k, treeOk n t = true) ∧ (ts.take k).Nodup
/-- None of the targets stands on the way of one of the first k, but that one itself. -/
def WaysOk (n : Nat) (ts : List Nat) (k : Nat) : Prop := ∀ t ∈ ts.take k, ∀ p ∈ wayN n t, p ≠ t → p ∉ ts
/-- Targets that may be. -/
def Fine (n : Nat) (ts : List Nat) : Prop := rowsOk n = true ∧ TreesOk n ts ts.length ∧ WaysOk n ts ts.length
/-- On a way of the first k. -/
def OnWays (n : Nat) (ts : List Nat) (k : Nat) (j : Nat) : Prop := ∃ t ∈ ts.take k, j ∈ wayN n t

/-- How often a thing comes in a list that holds nothing twice. -/
def cntN (l : List Nat) (j : Nat) : Nat := if j ∈ l then 1 else 0

theorem take_snoc {l : List Nat} {k x : Nat} (h : l[k]? = some x) : l.take (k + 1) = l.take k ++ [x] := by rw [List.take_add_one, h]; rfl

theorem TreesOk.snoc {n : Nat} {ts : List Nat} {k t : Nat} (h : TreesOk n ts k) (ht : ts[k]? = some t) (h1 : treeOk n t = true) (h2 : t ∉ ts.take k) : TreesOk n ts (k + 1) := by
  unfold TreesOk
  rw [take_snoc ht]
  refine ⟨fun x hx => ?_, ?_⟩
  · rcases List.mem_append.1 hx with hx | hx
    · exact h.1 x hx
    · simp at hx; subst hx; exact h1
  · rw [List.nodup_append]
    refine ⟨h.2, by simp, fun a ha b hb e => ?_⟩
    simp at hb; subst hb; subst e; exact h2 ha

theorem TreesOk.fall {n : Nat} {ts : List Nat} {k t : Nat} (ht : ts[k]? = some t) (h : treeOk n t = false ∨ t ∈ ts.take k) : ¬ TreesOk n ts ts.length := by
  rintro ⟨h1, h2⟩
  rw [List.take_length] at h1 h2
  have hm : t ∈ ts := List.mem_of_getElem? ht
  rcases h with h | h
  · rw [h1 t hm] at h; cases h
  · have e : ts = ts.take k ++ t :: ts.drop (k + 1) := by
      obtain ⟨hk, e⟩ := List.getElem?_eq_some_iff.1 ht
      rw [← e, ← List.drop_eq_getElem_cons hk, List.take_append_drop]
    rw [e, List.nodup_append] at h2
    exact h2.2.2 t h t (by simp) rfl

theorem cntN_snoc (l : List Nat) (x : Nat) (h : x ∉ l) : (fun j => if j = x then 1 else cntN l j) = cntN (l ++ [x]) := by
  funext j
  unfold cntN
  by_cases e : j = x
  · subst e; simp
  · simp [e]

/-! The second loop: the ways, one behind the other. What the counts tell: f j is above 0 just if j has come. -/

/-- In the midst of the way of the k-th target t, 'pre' of it having come. -/
structure Mid (n : Nat) (ts : List Nat) (k t : Nat) (pre : List Nat) (f : Nat → Nat) : Prop where
  on : ∀ j, j < 2 ^ 64 → (0 < f j ↔ OnWays n ts k j ∨ j ∈ pre)
  fine : ∀ p ∈ pre, p ≠ t → p ∉ ts
  fresh : ∀ p ∈ pre, ¬ OnWays n ts k p
/-- Between two ways. -/
structure Between (n : Nat) (ts : List Nat) (k : Nat) (f : Nat → Nat) : Prop where
  on : ∀ j, j < 2 ^ 64 → (0 < f j ↔ OnWays n ts k j)
  fine : WaysOk n ts k

theorem OnWays.snoc {n : Nat} {ts : List Nat} {k t : Nat} (ht : ts[k]? = some t) (j : Nat) : OnWays n ts (k + 1) j ↔ OnWays n ts k j ∨ j ∈ wayN n t := by
  unfold OnWays
  rw [take_snoc ht]
  simp only [List.mem_append, List.mem_singleton]
  constructor
  · rintro ⟨x, hx | rfl, hj⟩
    · exact .inl ⟨x, hx, hj⟩
    · exact .inr hj
  · rintro (⟨x, hx, hj⟩ | hj)
    · exact ⟨x, .inl hx, hj⟩
    · exact ⟨t, .inr rfl, hj⟩

theorem WaysOk.snoc {n : Nat} {ts : List Nat} {k t : Nat} (h : WaysOk n ts k) (ht : ts[k]? = some t) (h1 : ∀ p ∈ wayN n t, p ≠ t → p ∉ ts) : WaysOk n ts (k + 1) := by
  unfold WaysOk
  rw [take_snoc ht]
  intro x hx
  rcases List.mem_append.1 hx with hx | hx
  · exact h x hx
  · simp at hx; subst hx; exact h1

theorem Between.start (n : Nat) (ts : List Nat) : Between n ts 0 (fun _ => 0) :=
  ⟨fun j _ => by simp [OnWays], by simp [WaysOk]⟩
theorem Between.mid {n : Nat} {ts : List Nat} {k t : Nat} {f : Nat → Nat} (h : Between n ts k f) : Mid n ts k t [] f :=
  ⟨fun j hj => by rw [h.on j hj]; simp, by simp, by simp⟩

/-- A round of the way that goes on. -/
theorem Mid.step {n : Nat} {ts : List Nat} {k t x : Nat} {pre : List Nat} {f : Nat → Nat} (h : Mid n ts k t pre f) (hx : x < 2 ^ 64) (hf : f x = 0) (hok : x ≠ t → x ∉ ts) :
    Mid n ts k t (pre ++ [x]) (fun j => if j = x then f x + 1 else f j) := by
  have hn : ¬ (OnWays n ts k x ∨ x ∈ pre) := fun e => by have := (h.on x hx).2 e; omega
  refine ⟨fun j hj => ?_, fun p hp => ?_, fun p hp => ?_⟩
  · by_cases e : j = x
    · subst e; simp
    · simp only [e, if_false, h.on j hj, List.mem_append, List.mem_singleton, or_false]
  · rcases List.mem_append.1 hp with hp | hp
    · exact h.fine p hp
    · simp at hp; subst hp; exact hok
  · rcases List.mem_append.1 hp with hp | hp
    · exact h.fresh p hp
    · simp at hp; subst hp; exact fun e => hn (.inl e)

/-- The way is at its end. -/
theorem Mid.done {n : Nat} {ts : List Nat} {k t : Nat} {f : Nat → Nat} (hb : WaysOk n ts k) (ht : ts[k]? = some t) (h : Mid n ts k t (wayN n t) f) : Between n ts (k + 1) f :=
  ⟨fun j hj => by rw [h.on j hj, OnWays.snoc ht], hb.snoc ht h.fine⟩

/-- The way breaks off at a position that has come already: on an elder way. -/
theorem Mid.stop {n : Nat} {ts : List Nat} {k t x : Nat} {pre : List Nat} {f : Nat → Nat} (hb : WaysOk n ts k) (ht : ts[k]? = some t) (h : Mid n ts k t pre f) (hx : x < 2 ^ 64) (hf : 0 < f x) (hok : x ≠ t → x ∉ ts)
    (hp : (pre ++ [x]) <+: wayN n t) : Between n ts (k + 1) (fun j => if j = x then f x + 1 else f j) := by
  obtain ⟨rest, hr⟩ := hp
  have hr : wayN n t = pre ++ x :: rest := by rw [← hr]; simp
  have hnp : x ∉ pre := fun e => by
    have := way_nodup n t
    rw [hr, List.nodup_append] at this
    exact this.2.2 x e x (by simp) rfl
  have hon : OnWays n ts k x := by
    rcases (h.on x hx).1 hf with e | e
    · exact e
    · exact absurd e hnp
  obtain ⟨s, hs, hxs⟩ := hon
  obtain ⟨pre', rest', hr'⟩ := List.append_of_mem hxs
  have hrest : rest = rest' := way_share hr hr'
  have hsub : ∀ p ∈ rest, p ∈ wayN n s ∧ p ≠ s := fun p hp => by
    refine ⟨by rw [hr', hrest] at *; simp [hp], fun e => ?_⟩
    have hnd := way_nodup n s
    cases hpre : pre' with
    | nil =>
      rw [hpre] at hr'
      have e2 := way_head hr'
      rw [hr'] at hnd
      rw [hrest] at hp
      exact (List.nodup_cons.1 hnd).1 (by rw [e2, ← e]; exact hp)
    | cons y l =>
      rw [hpre] at hr'
      have e2 : y = s := way_head (l := l ++ x :: rest') (by simpa using hr')
      rw [hr'] at hnd
      simp only [List.cons_append] at hnd
      rw [hrest] at hp
      exact (List.nodup_cons.1 hnd).1 (by rw [e2, ← e]; simp [hp])
  refine ⟨fun j hj => ?_, hb.snoc ht fun p hp hne => ?_⟩
  · rw [OnWays.snoc ht, hr]
    by_cases e : j = x
    · subst e; simp
    · simp only [e, if_false, h.on j hj, List.mem_append, List.mem_cons, false_or]
      constructor
      · rintro (a | a)
        · exact .inl a
        · exact .inr (.inl a)
      · rintro (a | a | a)
        · exact .inl a
        · exact .inr a
        · exact .inl ⟨s, hs, (hsub j a).1⟩
  · rw [hr] at hp
    rcases List.mem_append.1 hp with a | a
    · exact h.fine p a hne
    · rcases List.mem_cons.1 a with a | a
      · subst a; exact hok hne
      · exact hb s hs p (hsub p a).1 (hsub p a).2

theorem Mid.fall {n : Nat} {ts : List Nat} {k t x : Nat} (ht : ts[k]? = some t) (hx : x ∈ wayN n t) (hne : x ≠ t) (hm : x ∈ ts) : ¬ WaysOk n ts ts.length := fun h => by
  unfold WaysOk at h
  rw [List.take_length] at h
  exact h t (List.mem_of_getElem? ht) x hx hne hm
end Go.Proofs.Ytcfpgcejahfdfab

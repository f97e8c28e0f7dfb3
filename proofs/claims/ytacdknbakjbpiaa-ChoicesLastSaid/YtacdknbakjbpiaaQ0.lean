/-
  Plain laws: loops that ask each, loops that seek one.
-/
import Derived.Test.YtacdknbakjbpiaaPa
namespace Go.Proofs.Ytacdknbakjbpiaa
open Go Ab

/-! ### loops that ask each, loops that seek one -/

theorem allLoop (F : Nat → Int → Option Bool) (N : Nat) (p : Nat → Bool) (r : Option Bool) (hstop : ∀ m, F (m + 1) (N : Int) = r)
    (hstep : ∀ m i, i < N → (∀ k, k < i → p k = true) → F (m + 1) (i : Int) = if p i = true then F m ((i + 1 : Nat) : Int) else some false) : ∀ n, N < n → F n 0 = if ∀ k, k < N → p k = true then r else some false := by
  have go : ∀ d m i, i + d = N → d < m → (∀ k, k < i → p k = true) → F m (i : Int) = if ∀ k, k < N → p k = true then r else some false := by
    intro d
    induction d with
    | zero =>
      intro m i h1 h2 h3
      obtain ⟨m, rfl⟩ : ∃ q, m = q + 1 := ⟨m - 1, by omega⟩
      rw [show i = N by omega, hstop, if_pos (by rw [show N = i by omega]; exact h3)]
    | succ d ih =>
      intro m i h1 h2 h3
      obtain ⟨m, rfl⟩ : ∃ q, m = q + 1 := ⟨m - 1, by omega⟩
      rw [hstep m i (by omega) h3]
      by_cases h : p i = true
      · rw [if_pos h]
        refine ih m (i + 1) (by omega) (by omega) fun k hk => ?_
        by_cases e : k = i
        · subst e; exact h
        · exact h3 k (by omega)
      · rw [if_neg h, if_neg (fun hh => h (hh i (by omega)))]
  intro n hn
  exact go N n 0 (by omega) hn (fun k hk => by omega)

theorem exLoop {β : Type} (F : Nat → Int → Option β) (N : Nat) (q : Nat → Bool) (g : Nat → Option β) (r : Option β) (hstop : ∀ m, F (m + 1) (N : Int) = r)
    (hstep : ∀ m i, i < N → F (m + 1) (i : Int) = if q i = true then g i else F m ((i + 1 : Nat) : Int)) (n : Nat) (hn : N < n) :
    ((∀ k, k < N → q k = false) → F n 0 = r) ∧ ∀ k, k < N → q k = true → (∀ l, l < k → q l = false) → F n 0 = g k := by
  have go : ∀ d m i, i + d = N → d < m → ((∀ k, i ≤ k → k < N → q k = false) → F m (i : Int) = r) ∧ ∀ k, i ≤ k → k < N → q k = true → (∀ l, i ≤ l → l < k → q l = false) → F m (i : Int) = g k := by
    intro d
    induction d with
    | zero =>
      intro m i h1 h2
      obtain ⟨m, rfl⟩ : ∃ q, m = q + 1 := ⟨m - 1, by omega⟩
      exact ⟨fun _ => by rw [show i = N by omega, hstop], fun k h3 h4 => by omega⟩
    | succ d ih =>
      intro m i h1 h2
      obtain ⟨m, rfl⟩ : ∃ q, m = q + 1 := ⟨m - 1, by omega⟩
      obtain ⟨ih1, ih2⟩ := ih m (i + 1) (by omega) (by omega)
      rw [hstep m i (by omega)]
      refine ⟨fun h => ?_, fun k h3 h4 h5 h6 => ?_⟩
      · rw [if_neg (by rw [h i (Nat.le_refl _) (by omega)]; simp)]
        exact ih1 fun k h7 h8 => h k (by omega) h8
      · by_cases e : k = i
        · subst e; rw [if_pos h5]
        · rw [if_neg (by rw [h6 i (Nat.le_refl _) (by omega)]; simp)]
          exact ih2 k (by omega) h4 h5 fun l h7 h8 => h6 l (by omega) h8
  obtain ⟨h1, h2⟩ := go N n 0 (by omega) hn
  exact ⟨fun h => h1 fun k _ hk => h k hk, fun k h3 h4 h5 => h2 k (Nat.zero_le _) h3 h4 fun l _ hl => h5 l hl⟩

/-- The first of some. -/
theorem first_of {q : Nat → Bool} : ∀ (N : Nat), (∃ k, k < N ∧ q k = true) → ∃ k, k < N ∧ q k = true ∧ ∀ l, l < k → q l = false
  | 0, ⟨k, hk, _⟩ => by omega
  | N + 1, ⟨k, hk, hq⟩ => by
    by_cases h : ∃ k, k < N ∧ q k = true
    · obtain ⟨k, h1, h2, h3⟩ := first_of N h
      exact ⟨k, by omega, h2, h3⟩
    · refine ⟨k, hk, hq, fun l hl => ?_⟩
      cases hx : q l with
      | false => rfl
      | true => exact absurd ⟨l, by omega, hx⟩ h

theorem lAt_getD {α : Type} {l : List α} {i : Nat} (d : α) (h : i < l.length) : lAt l (i : Int) = some (l.getD i d) := by
  rw [lAt_nat h, List.getD_eq_getElem?_getD, List.getElem?_eq_getElem h]
  rfl

theorem any_getD {α : Type} (q : α → Bool) (d : α) : ∀ l : List α, (l.any q = true ↔ ∃ k, k < l.length ∧ q (l.getD k d) = true)
  | [] => by simp
  | x :: l => by
    have ih := any_getD q d l
    rw [List.any_cons, Bool.or_eq_true, ih]
    constructor
    · rintro (h | ⟨k, h1, h2⟩)
      · exact ⟨0, by simp, by simpa using h⟩
      · exact ⟨k + 1, by simpa using h1, by simpa using h2⟩
    · rintro ⟨k, h1, h2⟩
      cases k with
      | zero => exact .inl (by simpa using h2)
      | succ k => exact .inr ⟨k, by simpa using h1, by simpa using h2⟩

/-- A place is sought. -/
theorem idxLoop {α : Type} (F : Nat → Int → Option Int) (l : List α) (d : α) (q : α → Bool) (hstop : ∀ m, F (m + 1) (l.length : Int) = some (-1))
    (hstep : ∀ m i, i < l.length → F (m + 1) (i : Int) = if q (l.getD i d) = true then some (i : Int) else F m ((i + 1 : Nat) : Int)) (n : Nat) (hn : l.length < n) :
    ∃ v, F n 0 = some v ∧ decide (v ≥ 0) = l.any q := by
  obtain ⟨h1, h2⟩ := exLoop F l.length (fun k => q (l.getD k d)) (fun k => some (k : Int)) (some (-1)) hstop hstep n hn
  by_cases h : ∃ k, k < l.length ∧ q (l.getD k d) = true
  · obtain ⟨k, k1, k2, k3⟩ := first_of _ h
    refine ⟨_, h2 k k1 k2 k3, ?_⟩
    rw [(any_getD q d l).2 h]
    simp
  · refine ⟨_, h1 (fun k hk => ?_), ?_⟩
    · cases hx : q (l.getD k d) with
      | false => rfl
      | true => exact absurd ⟨k, hk, hx⟩ h
    · have : l.any q = false := by
        cases hx : l.any q with
        | false => rfl
        | true => exact absurd ((any_getD q d l).1 hx) h
      rw [this]
      rfl

end Go.Proofs.Ytacdknbakjbpiaa
